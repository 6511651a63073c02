/- Texts that the row RSurvAll stands on: SVTrades, SVAdd, SVSmall, SVRef1, SVRef2, VSO, SoIns, SoHeap, SoPiv, SoCho, SoBrk, SoLen, SoPart, SoPis. -/
import Derived.Test.YtcbppikkoelimaaYSurvAllC
import Derived.Test.YtcbppikkoelimaaYSurvAllA
import Derived.Test.YtcbppikkoelimaaYSurvAllB
import Derived.Sort.AssemblyPlain
/- Surveil: a trade. (the drawn region printed by wip/gen/gen_sv_trades.py) -/
namespace Go.Proofs.Ytcbppikkoelimaa
open Go.V
set_option linter.unusedVariables false
set_option linter.unusedSimpArgs false

theorem part_who (W : Wt) (a id : Int) : (W.part a).who id = W.who id := by
  unfold Wt.who Wt.part
  dsimp only
  by_cases e : id = a
  · rw [if_pos e, e]; cases W.K a <;> rfl
  · rw [if_neg e]
theorem part_side (W : Wt) (a id : Int) : (W.part a).side id = W.side id := by
  unfold Wt.side Wt.part
  dsimp only
  by_cases e : id = a
  · rw [if_pos e, e]; cases W.K a <;> rfl
  · rw [if_neg e]
theorem Wt.Bd.part {j : Int} {W : Wt} (h : W.Bd j) (id : Int) : (W.part id).Bd j := ⟨h.n, h.p, h.z, h.l, h.s, h.k, h.c⟩
theorem Wt.Bd.pushed {j : Int} {W : Wt} (h : W.Bd j) {L : List Sn} {x : Sn} (hL : W.last = L) (hx : x.at_ = W.n) (hp : 0 ≤ x.pr ∧ x.pr < 262144) : Wt.Bd (j + 1) { W with last := L ++ [x] } := by subst hL; exact h.push hx hp
theorem trade0_n (W : Wt) (e : Ev) : (W.trade0 e).n = W.n ∧ (W.trade0 e).last = W.last := by
  unfold Wt.trade0
  exact ⟨by rw [(Wt.chg_eq _ _ _).1, (Wt.chg_eq _ _ _).1, (Wt.chg_eq _ _ _).1, (Wt.chg_eq _ _ _).1]; rfl, by rw [(Wt.chg_eq _ _ _).2.2.2.1, (Wt.chg_eq _ _ _).2.2.2.1, (Wt.chg_eq _ _ _).2.2.2.1, (Wt.chg_eq _ _ _).2.2.2.1]; rfl⟩
theorem Wt.Bd.trade0 {j : Int} {W : Wt} (h : W.Bd j) (e : Ev) : (W.trade0 e).Bd (j + 4) := by
  unfold Wt.trade0
  have h1 := ((((h.part e.id).part e.other).chg (W.who e.id) (f := fun p => { p with t := p.t + 1 }) (fun p => by dsimp only; omega)).chg (W.who e.other) (f := fun p => { p with t := p.t + 1 }) (fun p => by dsimp only; omega))
  have h2 := (h1.chg (W.buyer e) (f := fun p => { p with b := (p.b + e.q) % 18446744073709551616 }) (fun p => by dsimp only; omega)).chg (W.seller e) (f := fun p => { p with s := (p.s + e.q) % 18446744073709551616 }) (fun p => by dsimp only; omega)
  exact h2.mono (by omega)
theorem Wt.Bd.trade1 {j : Int} {W : Wt} (h : W.Bd j) (e : Ev) : (W.trade1 e).Bd (j + 5) := by
  have h0 := h.trade0 e
  have hn := trade0_n W e
  exact (h0.pushed (x := ⟨W.n, true, tickOf e.pr, W.buyer e, W.seller e, 0, 0, false⟩) hn.2 hn.1.symm (by dsimp only; unfold tickOf; split <;> omega)).mono (by omega)
theorem al_len (w : Wn) (z : Wt × List Al) (r m o n : Int) : (Wt.al w z r m o n).2.length ≤ z.2.length + 1 := by
  unfold Wt.al
  split
  · exact Nat.le_succ _
  · dsimp only; rw [List.length_append]; exact Nat.le_refl _
theorem Wt.Bd.trades {j : Int} {w : Wn} {z : Wt × List Al} (h : z.1.Bd j) (hj : 0 ≤ 8 * z.1.n + j) (e : Ev) : (Wt.trades w z e).1.Bd (j + 7) ∧ (Wt.trades w z e).1.n = z.1.n ∧ (Wt.trades w z e).2.length ≤ z.2.length + 2 := by
  have h1 := h.trade1 e
  have n1 : (z.1.trade1 e).n = z.1.n := (trade0_n z.1 e).1
  have h2 : (z.1.wash w z.2 e).1.Bd (j + 6) ∧ (z.1.wash w z.2 e).1.n = z.1.n ∧ (z.1.wash w z.2 e).2.length ≤ z.2.length + 1 := by
    unfold Wt.wash
    split
    · exact ⟨(Wt.Bd.al (z := (z.1.trade1 e, z.2)) h1 (by show 0 ≤ 8 * (z.1.trade1 e).n + (j + 5); omega) _ _ _ _).mono (by omega), by rw [(Wt.al_eq w (z.1.trade1 e, z.2) _ _ _ _).1]; exact n1, al_len _ _ _ _ _ _⟩
    · exact ⟨h1.mono (by omega), n1, Nat.le_succ _⟩
  unfold Wt.trades jump
  split
  · exact ⟨h2.1.mono (by omega), h2.2.1, by omega⟩
  · split
    · refine ⟨(h2.1.al (by rw [h2.2.1]; omega) _ _ _ _).mono (by omega), by rw [(Wt.al_eq _ _ _ _ _ _).1]; exact h2.2.1, ?_⟩
      have := al_len w (z.1.wash w z.2 e) 4 (z.1.who e.id) e.id (farOf (tickOf e.pr) (Sn.pr ‹_›))
      omega
    · exact ⟨h2.1.mono (by omega), h2.2.1, by omega⟩
theorem jump_some {w : Wn} {z : Wt × List Al} {pr m id : Int} {x : Sn} (h : z.1.last.find? (·.tr) = some x) : jump w z pr m id = if w.mov < farOf pr x.pr then Wt.al w z 4 m id (farOf pr x.pr) else z := by unfold jump; rw [h]
theorem jump_none {w : Wn} {z : Wt × List Al} {pr m id : Int} (h : z.1.last.find? (·.tr) = none) : jump w z pr m id = z := by unfold jump; rw [h]
abbrev Owb (b : Nat) (m s : Int) : Nat × Ch := (b, .cells [.int .u32 m, .int .i64 s] 79)
/-- how far the members' trades are counted -/
def trW (W : Wt) (e : Ev) : Nat → Wt
  | 0 => (W.part e.id).part e.other
  | 1 => ((W.part e.id).part e.other).chg (W.who e.id) fun p => { p with t := p.t + 1 }
  | _ => (((W.part e.id).part e.other).chg (W.who e.id) fun p => { p with t := p.t + 1 }).chg (W.who e.other) fun p => { p with t := p.t + 1 }
theorem Wt.Bd.trW {j : Int} {W : Wt} (h : W.Bd j) (e : Ev) (i : Nat) : (Go.Proofs.Ytcbppikkoelimaa.trW W e i).Bd (j + 2) ∧ (Go.Proofs.Ytcbppikkoelimaa.trW W e i).n = W.n := by
  have h1 := ((h.part e.id).part e.other).chg (W.who e.id) (f := fun p => { p with t := p.t + 1 }) (fun p => by dsimp only; omega)
  have h2 := h1.chg (W.who e.other) (f := fun p => { p with t := p.t + 1 }) (fun p => by dsimp only; omega)
  match i with
  | 0 => exact ⟨((h.part e.id).part e.other).mono (by omega), rfl⟩
  | 1 => exact ⟨h1.mono (by omega), (Wt.chg_eq _ _ _).1⟩
  | i + 2 => exact ⟨h2.mono (by omega), by show ((((W.part e.id).part e.other).chg (W.who e.id) fun p => { p with t := p.t + 1 }).chg (W.who e.other) fun p => { p with t := p.t + 1 }).n = W.n; rw [(Wt.chg_eq _ _ _).1, (Wt.chg_eq _ _ _).1]; rfl⟩
structure TLs where
  i : Nat
  z : WZ
set_option maxRecDepth 20000 in
set_option maxHeartbeats 8000000 in
theorem wtrades_ok (w0 : World) (p : WP) (wn : Wn) (hw : wn.Can) {W : Wt} {z : WZ} (hI : WI W z) {j : Int} (hB : W.Bd j) (hj : 0 ≤ j ∧ j ≤ 8) (hn : W.n ≤ 800000000) {out : List Al} {v : Value} {k : Hp} (ho : AlOwn v out k) (hol : out.length ≤ 2900000000) (e : Ev) :
    Does Try.prog 24 [.pointer (some ⟨p.b, 0, none⟩), v, .agg ⟨e.cells⟩] (z.H p wn W.n ++ k) w0 (StepP p wn W.n (Wt.trades wn (W, out) e)) := by
  have hP1 := fun w => part_ok w p wn W.n W z hI e.id
  have hP2 : ∀ w z1, WI (W.part e.id) z1 → Does Try.prog 46 [.pointer (some ⟨p.b, 0, none⟩), .int .u64 e.other] (z1.H p wn W.n) w
      (fun v hs => ∃ z', v = .agg ⟨[.int .u32 (W.who e.other), .int .i64 (W.side e.other)]⟩ ∧ hs = z'.H p wn W.n ∧ WI ((W.part e.id).part e.other) z') := fun w z1 h1 => by
    have := part_ok w p wn W.n (W.part e.id) z1 h1 e.other
    rw [part_who, part_side] at this
    exact this
  refine Does.less (Does.of (n := 132) Try.func24 rfl rfl rfl rfl ?_)
  refine .seq ((.region (.nw (.box (l := e.cells) rfl rfl) fun b5 => (.v (.assign rfl) (.nil ?_)))))
  refine .mid (X := Nat × Nat × WZ) (fun x => [(0, .pointer (some ⟨p.b, 0, none⟩)), (1, v), (5, .pointer (some ⟨b5, 0, none⟩)), (7, .pointer (some ⟨x.1, 0, none⟩)), (8, .pointer (some ⟨x.2.1, 0, none⟩))]) (fun x => Owb x.1 (W.who e.id) (W.side e.id) :: Owb x.2.1 (W.who e.other) (W.side e.other) :: Evb b5 e :: (WZ.H p wn W.n x.2.2 ++ k)) (fun x => WI ((W.part e.id).part e.other) x.2.2) ?_ ?_
  · refine (.drawX [0, 1, 2, 4, 5, 6] [Evb b5 e] (by intro y hy; simp at hy; subst hy; simp) (by kernel_rfl) (by kernel_rfl) ?_)
    refine .v (fun _ f => .move rfl) (.v (fun _ f => .fieldAddr rfl) (.v (fun _ f => .load (v := .int .u64 e.id) rfl (.one (hb := .sub f) rfl)) (.v (fun _ f => .move rfl) (.v (fun _ f => .fieldAddr rfl) (.v (fun _ f => .load (v := .int .u64 e.other) rfl (.one (hb := .sub f) rfl)) (.nil ?_))))))
    refine .three 3 8 9 (by kernel_rfl) (.clT (WZ.H p wn W.n z) rfl rfl rfl (fun w s => hP1 w) (fun h y hy => by simp at hy; subst hy; simp) ?_) (.nw rfl .alloc ?_) (.nw rfl .alloc ?_)
    · rintro _ _ ⟨z1, rfl, rfl, hI1⟩
      refine .three 7 8 9 (by kernel_rfl) (.clT (WZ.H p wn W.n z1) rfl rfl rfl (fun w s => hP2 w z1 hI1) (fun h y hy => by simp at hy; subst hy; simp) ?_) (.nw rfl .alloc ?_) (.nw rfl .alloc ?_)
      · rintro _ _ ⟨z2, rfl, rfl, hI2⟩
        refine .two 8 9 (by kernel_rfl) (.nw rfl .alloc ?_) (.nw rfl .alloc ?_)
        · intro b7
          refine .run [9, 10, 11] (by intro y hy; simp at hy; subst hy; simp) (by kernel_rfl) ?_
          refine .nw .alloc ?_
          intro b8
          refine .st (.sw (vs := [.int .u32 (W.who e.id), .int .i64 (W.side e.id)]) rfl rfl) (fun _ => (by intro y hy; simp at hy; subst hy; simp)) (.st (.sw (vs := [.int .u32 (W.who e.other), .int .i64 (W.side e.other)]) rfl rfl) (fun _ => (by intro y hy; simp at hy; subst hy; simp)) (.nil ?_))
          exact ⟨(b7, b8, z2), hI2, .cons rfl (.cons rfl (.cons rfl (.cons rfl (.cons rfl (.nil _))))), fun _ s => s.take⟩
        · intro b8
          refine .run [8, 10, 11] (by intro y hy; simp at hy; subst hy; simp) (by kernel_rfl) ?_
          refine .nw .alloc ?_
          intro b7
          refine .st (.sw (vs := [.int .u32 (W.who e.id), .int .i64 (W.side e.id)]) rfl rfl) (fun _ => (by intro y hy; simp at hy; subst hy; simp)) (.st (.sw (vs := [.int .u32 (W.who e.other), .int .i64 (W.side e.other)]) rfl rfl) (fun _ => (by intro y hy; simp at hy; subst hy; simp)) (.nil ?_))
          exact ⟨(b7, b8, z2), hI2, .cons rfl (.cons rfl (.cons rfl (.cons rfl (.cons rfl (.nil _))))), fun _ s => s.take⟩
      · intro b7
        refine .two 7 9 (by kernel_rfl) (.clT (WZ.H p wn W.n z1) rfl rfl rfl (fun w s => hP2 w z1 hI1) (fun h y hy => by simp at hy; subst hy; simp) ?_) (.nw rfl .alloc ?_)
        · rintro _ _ ⟨z2, rfl, rfl, hI2⟩
          refine .run [9, 10, 11] (by intro y hy; simp at hy; subst hy; simp) (by kernel_rfl) ?_
          refine .nw .alloc ?_
          intro b8
          refine .st (.sw (vs := [.int .u32 (W.who e.id), .int .i64 (W.side e.id)]) rfl rfl) (fun _ => (by intro y hy; simp at hy; subst hy; simp)) (.st (.sw (vs := [.int .u32 (W.who e.other), .int .i64 (W.side e.other)]) rfl rfl) (fun _ => (by intro y hy; simp at hy; subst hy; simp)) (.nil ?_))
          exact ⟨(b7, b8, z2), hI2, .cons rfl (.cons rfl (.cons rfl (.cons rfl (.cons rfl (.nil _))))), fun _ s => s.take⟩
        · intro b8
          refine .run [7, 10, 11] (by intro y hy; simp at hy; subst hy; simp) (by kernel_rfl) ?_
          refine .clT (WZ.H p wn W.n z1) rfl rfl (fun w s => hP2 w z1 hI1) (fun h y hy => by simp at hy; subst hy; simp) ?_
          rintro _ _ ⟨z2, rfl, rfl, hI2⟩
          refine .st (.sw (vs := [.int .u32 (W.who e.id), .int .i64 (W.side e.id)]) rfl rfl) (fun _ => (by intro y hy; simp at hy; subst hy; simp)) (.st (.sw (vs := [.int .u32 (W.who e.other), .int .i64 (W.side e.other)]) rfl rfl) (fun _ => (by intro y hy; simp at hy; subst hy; simp)) (.nil ?_))
          exact ⟨(b7, b8, z2), hI2, .cons rfl (.cons rfl (.cons rfl (.cons rfl (.cons rfl (.nil _))))), fun _ s => s.take⟩
      · intro b8
        refine .two 7 8 (by kernel_rfl) (.clT (WZ.H p wn W.n z1) rfl rfl rfl (fun w s => hP2 w z1 hI1) (fun h y hy => by simp at hy; subst hy; simp) ?_) (.nw rfl .alloc ?_)
        · rintro _ _ ⟨z2, rfl, rfl, hI2⟩
          refine .run [8, 10, 11] (by intro y hy; simp at hy; subst hy; simp) (by kernel_rfl) ?_
          refine .nw .alloc ?_
          intro b7
          refine .st (.sw (vs := [.int .u32 (W.who e.id), .int .i64 (W.side e.id)]) rfl rfl) (fun _ => (by intro y hy; simp at hy; subst hy; simp)) (.st (.sw (vs := [.int .u32 (W.who e.other), .int .i64 (W.side e.other)]) rfl rfl) (fun _ => (by intro y hy; simp at hy; subst hy; simp)) (.nil ?_))
          exact ⟨(b7, b8, z2), hI2, .cons rfl (.cons rfl (.cons rfl (.cons rfl (.cons rfl (.nil _))))), fun _ s => s.take⟩
        · intro b7
          refine .run [7, 10, 11] (by intro y hy; simp at hy; subst hy; simp) (by kernel_rfl) ?_
          refine .clT (WZ.H p wn W.n z1) rfl rfl (fun w s => hP2 w z1 hI1) (fun h y hy => by simp at hy; subst hy; simp) ?_
          rintro _ _ ⟨z2, rfl, rfl, hI2⟩
          refine .st (.sw (vs := [.int .u32 (W.who e.id), .int .i64 (W.side e.id)]) rfl rfl) (fun _ => (by intro y hy; simp at hy; subst hy; simp)) (.st (.sw (vs := [.int .u32 (W.who e.other), .int .i64 (W.side e.other)]) rfl rfl) (fun _ => (by intro y hy; simp at hy; subst hy; simp)) (.nil ?_))
          exact ⟨(b7, b8, z2), hI2, .cons rfl (.cons rfl (.cons rfl (.cons rfl (.cons rfl (.nil _))))), fun _ s => s.take⟩
    · intro b7
      refine .two 3 9 (by kernel_rfl) (.clT (WZ.H p wn W.n z) rfl rfl rfl (fun w s => hP1 w) (fun h y hy => by simp at hy; subst hy; simp) ?_) (.nw rfl .alloc ?_)
      · rintro _ _ ⟨z1, rfl, rfl, hI1⟩
        refine .two 7 9 (by kernel_rfl) (.clT (WZ.H p wn W.n z1) rfl rfl rfl (fun w s => hP2 w z1 hI1) (fun h y hy => by simp at hy; subst hy; simp) ?_) (.nw rfl .alloc ?_)
        · rintro _ _ ⟨z2, rfl, rfl, hI2⟩
          refine .run [9, 10, 11] (by intro y hy; simp at hy; subst hy; simp) (by kernel_rfl) ?_
          refine .nw .alloc ?_
          intro b8
          refine .st (.sw (vs := [.int .u32 (W.who e.id), .int .i64 (W.side e.id)]) rfl rfl) (fun _ => (by intro y hy; simp at hy; subst hy; simp)) (.st (.sw (vs := [.int .u32 (W.who e.other), .int .i64 (W.side e.other)]) rfl rfl) (fun _ => (by intro y hy; simp at hy; subst hy; simp)) (.nil ?_))
          exact ⟨(b7, b8, z2), hI2, .cons rfl (.cons rfl (.cons rfl (.cons rfl (.cons rfl (.nil _))))), fun _ s => s.take⟩
        · intro b8
          refine .run [7, 10, 11] (by intro y hy; simp at hy; subst hy; simp) (by kernel_rfl) ?_
          refine .clT (WZ.H p wn W.n z1) rfl rfl (fun w s => hP2 w z1 hI1) (fun h y hy => by simp at hy; subst hy; simp) ?_
          rintro _ _ ⟨z2, rfl, rfl, hI2⟩
          refine .st (.sw (vs := [.int .u32 (W.who e.id), .int .i64 (W.side e.id)]) rfl rfl) (fun _ => (by intro y hy; simp at hy; subst hy; simp)) (.st (.sw (vs := [.int .u32 (W.who e.other), .int .i64 (W.side e.other)]) rfl rfl) (fun _ => (by intro y hy; simp at hy; subst hy; simp)) (.nil ?_))
          exact ⟨(b7, b8, z2), hI2, .cons rfl (.cons rfl (.cons rfl (.cons rfl (.cons rfl (.nil _))))), fun _ s => s.take⟩
      · intro b8
        refine .run [3, 7, 10, 11] (by intro y hy; simp at hy; subst hy; simp) (by kernel_rfl) ?_
        refine .clT (WZ.H p wn W.n z) rfl rfl (fun w s => hP1 w) (fun h y hy => by simp at hy; subst hy; simp) ?_
        rintro _ _ ⟨z1, rfl, rfl, hI1⟩
        refine .clT (WZ.H p wn W.n z1) rfl rfl (fun w s => hP2 w z1 hI1) (fun h y hy => by simp at hy; subst hy; simp) ?_
        rintro _ _ ⟨z2, rfl, rfl, hI2⟩
        refine .st (.sw (vs := [.int .u32 (W.who e.id), .int .i64 (W.side e.id)]) rfl rfl) (fun _ => (by intro y hy; simp at hy; subst hy; simp)) (.st (.sw (vs := [.int .u32 (W.who e.other), .int .i64 (W.side e.other)]) rfl rfl) (fun _ => (by intro y hy; simp at hy; subst hy; simp)) (.nil ?_))
        exact ⟨(b7, b8, z2), hI2, .cons rfl (.cons rfl (.cons rfl (.cons rfl (.cons rfl (.nil _))))), fun _ s => s.take⟩
    · intro b8
      refine .two 3 8 (by kernel_rfl) (.clT (WZ.H p wn W.n z) rfl rfl rfl (fun w s => hP1 w) (fun h y hy => by simp at hy; subst hy; simp) ?_) (.nw rfl .alloc ?_)
      · rintro _ _ ⟨z1, rfl, rfl, hI1⟩
        refine .two 7 8 (by kernel_rfl) (.clT (WZ.H p wn W.n z1) rfl rfl rfl (fun w s => hP2 w z1 hI1) (fun h y hy => by simp at hy; subst hy; simp) ?_) (.nw rfl .alloc ?_)
        · rintro _ _ ⟨z2, rfl, rfl, hI2⟩
          refine .run [8, 10, 11] (by intro y hy; simp at hy; subst hy; simp) (by kernel_rfl) ?_
          refine .nw .alloc ?_
          intro b7
          refine .st (.sw (vs := [.int .u32 (W.who e.id), .int .i64 (W.side e.id)]) rfl rfl) (fun _ => (by intro y hy; simp at hy; subst hy; simp)) (.st (.sw (vs := [.int .u32 (W.who e.other), .int .i64 (W.side e.other)]) rfl rfl) (fun _ => (by intro y hy; simp at hy; subst hy; simp)) (.nil ?_))
          exact ⟨(b7, b8, z2), hI2, .cons rfl (.cons rfl (.cons rfl (.cons rfl (.cons rfl (.nil _))))), fun _ s => s.take⟩
        · intro b7
          refine .run [7, 10, 11] (by intro y hy; simp at hy; subst hy; simp) (by kernel_rfl) ?_
          refine .clT (WZ.H p wn W.n z1) rfl rfl (fun w s => hP2 w z1 hI1) (fun h y hy => by simp at hy; subst hy; simp) ?_
          rintro _ _ ⟨z2, rfl, rfl, hI2⟩
          refine .st (.sw (vs := [.int .u32 (W.who e.id), .int .i64 (W.side e.id)]) rfl rfl) (fun _ => (by intro y hy; simp at hy; subst hy; simp)) (.st (.sw (vs := [.int .u32 (W.who e.other), .int .i64 (W.side e.other)]) rfl rfl) (fun _ => (by intro y hy; simp at hy; subst hy; simp)) (.nil ?_))
          exact ⟨(b7, b8, z2), hI2, .cons rfl (.cons rfl (.cons rfl (.cons rfl (.cons rfl (.nil _))))), fun _ s => s.take⟩
      · intro b7
        refine .run [3, 7, 10, 11] (by intro y hy; simp at hy; subst hy; simp) (by kernel_rfl) ?_
        refine .clT (WZ.H p wn W.n z) rfl rfl (fun w s => hP1 w) (fun h y hy => by simp at hy; subst hy; simp) ?_
        rintro _ _ ⟨z1, rfl, rfl, hI1⟩
        refine .clT (WZ.H p wn W.n z1) rfl rfl (fun w s => hP2 w z1 hI1) (fun h y hy => by simp at hy; subst hy; simp) ?_
        rintro _ _ ⟨z2, rfl, rfl, hI2⟩
        refine .st (.sw (vs := [.int .u32 (W.who e.id), .int .i64 (W.side e.id)]) rfl rfl) (fun _ => (by intro y hy; simp at hy; subst hy; simp)) (.st (.sw (vs := [.int .u32 (W.who e.other), .int .i64 (W.side e.other)]) rfl rfl) (fun _ => (by intro y hy; simp at hy; subst hy; simp)) (.nil ?_))
        exact ⟨(b7, b8, z2), hI2, .cons rfl (.cons rfl (.cons rfl (.cons rfl (.cons rfl (.nil _))))), fun _ s => s.take⟩
  · rintro ⟨b7, b8, z2⟩ hI2
    dsimp only at hI2 ⊢
    refine .seq (.seq ((.region (.v (.loadA (vs := [.int .u32 (W.who e.id), .int .i64 (W.side e.id)]) rfl .whole rfl) (.v (.loadA (vs := [.int .u32 (W.who e.other), .int .i64 (W.side e.other)]) rfl .whole rfl) ?_)))))
    refine .ef (.buildSlice (out := [.int .u32 (W.who e.id), .int .i64 (W.side e.id), .int .u32 (W.who e.other), .int .i64 (W.side e.other)]) rfl (by decide) rfl rfl) ?_
    rintro _ _ ⟨bs, rfl, rfl⟩
    refine .v (.len rfl) (.v (.move rfl) (.nil ?_))
    have hz0 := hB.n
    refine .block (.loop (X := TLs) (fun x => [(0, .pointer (some ⟨p.b, 0, none⟩)), (1, v), (5, .pointer (some ⟨b5, 0, none⟩)), (7, .pointer (some ⟨b7, 0, none⟩)), (8, .pointer (some ⟨b8, 0, none⟩)), (27, .slice (some ⟨bs, 0, none⟩) 2 2), (28, .int .i64 2), (29, .int .i64 x.i)]) (fun x => (bs, .cells [.int .u32 (W.who e.id), .int .i64 (W.side e.id), .int .u32 (W.who e.other), .int .i64 (W.side e.other)] 79) :: Owb b7 (W.who e.id) (W.side e.id) :: Owb b8 (W.who e.other) (W.side e.other) :: Evb b5 e :: (WZ.H p wn W.n x.z ++ k)) (fun x => x.i ≤ 2 ∧ WI (trW W e x.i) x.z) (fun x => 2 - x.i) ⟨0, z2⟩ ⟨Nat.zero_le _, hI2⟩ (.cons rfl (.cons rfl (.cons rfl (.cons rfl (.cons rfl (.cons rfl (.cons rfl (.cons rfl (.nil _))))))))) (fun _ s => s) ?_)
    rintro ⟨i, z3⟩ ⟨hi, hI3⟩
    dsimp only at hi hI3 ⊢
    refine .seq ((.region (.v (.lss rfl rfl) (.nil ?_))))
    refine .seq (.cond_dec rfl (fun h1 => .skip ?_) (fun h1 => .exit ?_))
    · obtain ⟨hBi, hni⟩ := hB.trW e i
      have hpt := fun m => (hBi.p m).2.1
      have h01 : i = 0 ∨ i = 1 := by omega
      rcases h01 with rfl | rfl
      · refine .seq (.block (.seq ((.region (.v (.indexAddr rfl rfl (by omega) (by omega)) (.v (.loadA (vs := [.int .u32 (W.who e.id), .int .i64 (W.side e.id)]) rfl (.chunk (getP 0 rfl)) rfl) (.nw .alloc fun b10 => (.st (.sw rfl rfl) (.nil ?_)))))))))
        refine .region (.v (.move rfl) (.v (.fieldAddr rfl) (.v (.load (v := .int .u32 (W.who e.id)) rfl (.one rfl)) ?_)))
        refine .ef (.callT (WZ.H p wn W.n z3) rfl rfl fun w s => changed_ok w p wn W.n (trW W e 0) z3 hI3 (W.who e.id) 47 [] (fun p => { p with t := p.t + 1 }) none [] (fun j v hv => by simp at hv) (fun _ w bp _ => clTrad w bp _ (by have := hpt (W.who e.id); unfold Bdc at this; omega))) ?_
        rintro _ _ ⟨_, ⟨z4, rfl, rfl, hI4⟩, rfl⟩
        refine .nil ?_
        refine .region (.v (.addi rfl rfl (by omega)) (.v (.move rfl) (.nil ?_)))
        exact ⟨⟨1, z4⟩, ⟨by show 1 ≤ 2; omega, hI4⟩, by show 2 - 1 < 2 - 0; omega, .cons rfl (.cons rfl (.cons rfl (.cons rfl (.cons rfl (.cons rfl (.cons rfl (.cons rfl (.nil _)))))))), fun _ s => s.take⟩
      · refine .seq (.block (.seq ((.region (.v (.indexAddr rfl rfl (by omega) (by omega)) (.v (.loadA (vs := [.int .u32 (W.who e.other), .int .i64 (W.side e.other)]) rfl (.chunk (getP 2 rfl)) rfl) (.nw .alloc fun b10 => (.st (.sw rfl rfl) (.nil ?_)))))))))
        refine .region (.v (.move rfl) (.v (.fieldAddr rfl) (.v (.load (v := .int .u32 (W.who e.other)) rfl (.one rfl)) ?_)))
        refine .ef (.callT (WZ.H p wn W.n z3) rfl rfl fun w s => changed_ok w p wn W.n (trW W e 1) z3 hI3 (W.who e.other) 47 [] (fun p => { p with t := p.t + 1 }) none [] (fun j v hv => by simp at hv) (fun _ w bp _ => clTrad w bp _ (by have := hpt (W.who e.other); unfold Bdc at this; omega))) ?_
        rintro _ _ ⟨_, ⟨z4, rfl, rfl, hI4⟩, rfl⟩
        refine .nil ?_
        refine .region (.v (.addi rfl rfl (by omega)) (.v (.move rfl) (.nil ?_)))
        exact ⟨⟨2, z4⟩, ⟨by show 2 ≤ 2; omega, hI4⟩, by show 2 - 2 < 2 - 1; omega, .cons rfl (.cons rfl (.cons rfl (.cons rfl (.cons rfl (.cons rfl (.cons rfl (.cons rfl (.nil _)))))))), fun _ s => s.take⟩
    · have hi2 : i = 2 := by omega
      subst hi2
      obtain ⟨hB2, hn2⟩ := hB.trW e 2
      refine .keep (Owb b7 (W.who e.id) (W.side e.id) :: Owb b8 (W.who e.other) (W.side e.other) :: Evb b5 e :: (WZ.H p wn W.n z3 ++ k)) ?_
      refine .seq ((.drawK [Owb b7 (W.who e.id) (W.side e.id), Owb b8 (W.who e.other) (W.side e.other)] (by intro y hy; simp at hy; rcases hy with rfl | rfl <;> simp) (by kernel_rfl) (by kernel_rfl) ?_))
      refine .v (fun _ f => .fieldAddr rfl) (.v (fun _ f => .load (v := .int .u32 (W.who e.id)) rfl (.one (hb := .sub f) rfl)) (.v (fun _ f => .fieldAddr rfl) (.v (fun _ f => .load (v := .int .u32 (W.who e.other)) rfl (.one (hb := .sub f) rfl)) (.v (fun _ f => .assign rfl) (.v (fun _ f => .assign rfl) (.nil ?_))))))
      refine .mid (X := Int × Int) (fun x => [(0, .pointer (some ⟨p.b, 0, none⟩)), (1, v), (5, .pointer (some ⟨b5, 0, none⟩)), (7, .pointer (some ⟨b7, 0, none⟩)), (8, .pointer (some ⟨b8, 0, none⟩)), (11, .int .u32 x.1), (12, .int .u32 x.2)]) (fun _ => Owb b7 (W.who e.id) (W.side e.id) :: Owb b8 (W.who e.other) (W.side e.other) :: Evb b5 e :: (WZ.H p wn W.n z3 ++ k)) (fun x => x = (W.buyer e, W.seller e)) (.seq ((.region (.v (.fieldAddr rfl) (.v (.load (v := .int .i64 e.sd) rfl (.one rfl)) (.v (.nei rfl rfl) (.nil ?_))))))) ?_
      · refine .cond_dec rfl (fun h2 => ?_) (fun h2 => .skip ?_)
        · refine .region (.v (.move rfl) (.v (.move rfl) (.v (.assign rfl) (.v (.assign rfl) (.nil ?_)))))
          exact ⟨(W.who e.other, W.who e.id), by unfold Wt.buyer Wt.seller; rw [if_neg h2, if_neg h2], .cons rfl (.cons rfl (.cons rfl (.cons rfl (.cons rfl (.cons rfl (.cons rfl (.nil _))))))), fun _ s => s⟩
        · have h2 : e.sd = 1 := by omega
          exact ⟨(W.who e.id, W.who e.other), by unfold Wt.buyer Wt.seller; rw [if_pos h2, if_pos h2], .cons rfl (.cons rfl (.cons rfl (.cons rfl (.cons rfl (.cons rfl (.cons rfl (.nil _))))))), fun _ s => s⟩
      rintro x rfl
      dsimp only
      have hR := fun (w : World) (zz : WZ) (hs : Hp) (s : Sat w0 (bl (z.H p wn W.n ++ k)) (Owb b7 (W.who e.id) (W.side e.id) :: Owb b8 (W.who e.other) (W.side e.other) :: Evb b5 e :: (WZ.H p wn W.n zz ++ k)) w) => (Rd.chunk s (T := 34) (l := e.cells) (b := b5) (o := 0) (no := bl (WZ.H p wn W.n zz)) (Sat.apart (a := [Evb b5 e]) (b := WZ.H p wn W.n zz) s b5 (by simp [bl])) (fun j v hv => by rw [Nat.zero_add]; exact hv) : Rd w (bl (WZ.H p wn W.n zz)) (some ⟨b5, 0, none⟩) e.cells)
      refine .seq ((.region (.v (.move rfl) (.v (.move rfl) (.v (.makeFunc rfl rfl) ?_)))))
      refine .ef (.callT (WZ.H p wn W.n z3) rfl rfl fun w s => changed_ok w p wn W.n (trW W e 2) z3 hI3 (W.buyer e) 48 [.pointer (some ⟨b5, 0, none⟩)] (fun p => { p with b := (p.b + e.q) % 18446744073709551616 }) (some ⟨b5, 0, none⟩) e.cells (hR w z3 [] s) (fun _ w bp h => clBuy w bp b5 _ e h)) ?_
      rintro _ _ ⟨_, ⟨z4, rfl, rfl, hI4⟩, rfl⟩
      refine .nil ?_
      refine .keep (Owb b7 (W.who e.id) (W.side e.id) :: Owb b8 (W.who e.other) (W.side e.other) :: Evb b5 e :: (WZ.H p wn W.n z4 ++ k)) ?_
      refine .seq ((.region (.v (.move rfl) (.v (.move rfl) (.v (.makeFunc rfl rfl) ?_)))))
      refine .ef (.callT (WZ.H p wn W.n z4) rfl rfl fun w s => changed_ok w p wn W.n _ z4 hI4 (W.seller e) 49 [.pointer (some ⟨b5, 0, none⟩)] (fun p => { p with s := (p.s + e.q) % 18446744073709551616 }) (some ⟨b5, 0, none⟩) e.cells (hR w z4 [] s) (fun _ w bp h => clSell w bp b5 _ e h)) ?_
      rintro _ _ ⟨_, ⟨z5, rfl, rfl, hI5⟩, rfl⟩
      refine .nil ?_
      have hI5 : WI (W.trade0 e) z5 := hI5
      clear hI4 hI3 hI2 hI
      have hB5 := hB.trade0 e
      obtain ⟨hn5, hL5⟩ := trade0_n W e
      obtain ⟨eo1, co1, ep1, cp1, ea1, ca1, vl1, hl1, vc1, hc1⟩ := z5
      have ol := hI5.l
      rw [hL5] at ol
      dsimp only at ol
      obtain ⟨Al1, kl1, rfl⟩ := OwnS.slice ol
      have hlen1 := hB.l
      refine .keep (Owb b7 (W.who e.id) (W.side e.id) :: Owb b8 (W.who e.other) (W.side e.other) :: Evb b5 e :: (WZ.H p wn W.n ⟨eo1, co1, ep1, cp1, ea1, ca1, .slice Al1 W.last.length kl1, hl1, vc1, hc1⟩ ++ k)) ?_
      refine .seq ((.region (.v (.fieldAddr rfl) (.v (.load (v := .int .i64 e.pr) rfl (.one rfl)) (.v (.assign rfl) (.nil ?_))))))
      refine .mid (X := Int) (fun x => [(0, .pointer (some ⟨p.b, 0, none⟩)), (1, v), (5, .pointer (some ⟨b5, 0, none⟩)), (7, .pointer (some ⟨b7, 0, none⟩)), (8, .pointer (some ⟨b8, 0, none⟩)), (11, .int .u32 (W.buyer e)), (12, .int .u32 (W.seller e)), (13, .int .i64 x)]) (fun _ => Owb b7 (W.who e.id) (W.side e.id) :: Owb b8 (W.who e.other) (W.side e.other) :: Evb b5 e :: (WZ.H p wn W.n ⟨eo1, co1, ep1, cp1, ea1, ca1, .slice Al1 W.last.length kl1, hl1, vc1, hc1⟩ ++ k)) (fun x => x = tickOf e.pr) (.seq ((.region (.v (.move rfl) (.v (.lss rfl rfl) (.v (.move rfl) (.or (b2 := decide (262144 ≤ e.pr)) 59 61 2 2 rfl rfl (fun g1 => .v (.move rfl) (.v (.geq rfl rfl) (.nil ⟨rfl, rfl, rfl, rfl⟩))) (.nil ?_)))))))) ?_
      · refine .cond rfl (fun h3 => ?_) (fun h3 => .skip ?_)
        · rw [Bool.or_eq_true, decide_eq_true_eq, decide_eq_true_eq] at h3
          refine .region (.v (.assign rfl) (.nil ?_))
          exact ⟨0, by unfold tickOf; rw [if_pos h3], .cons rfl (.cons rfl (.cons rfl (.cons rfl (.cons rfl (.cons rfl (.cons rfl (.cons rfl (.nil _)))))))), fun _ s => s⟩
        · rw [Bool.or_eq_false_iff, decide_eq_false_iff_not, decide_eq_false_iff_not] at h3
          exact ⟨e.pr, by unfold tickOf; rw [if_neg (by omega)], .cons rfl (.cons rfl (.cons rfl (.cons rfl (.cons rfl (.cons rfl (.cons rfl (.cons rfl (.nil _)))))))), fun _ s => s⟩
      rintro x rfl
      have htk : 0 ≤ tickOf e.pr ∧ tickOf e.pr < 262144 := by unfold tickOf; split <;> omega
      refine .seq ((.drawQ 17 [0, 1, 2, 3, 4, 5, 6, 7, 8, 9, 10, 11, 12, 13, 14, 15, 16, 17] [Wb p.b wn W.n p.mo p.mp p.ma (.slice Al1 W.last.length kl1) vc1] (by intro y hy; simp at hy; subst hy; simp) (by kernel_rfl) (by kernel_rfl) ?_))
      refine .v (fun _ f => .move rfl) (.v (fun _ f => .move rfl) (.v (fun _ f => .nilCheck rfl) (.v (fun _ f => .fieldAddr rfl) (.v (fun _ f => .load (v := .slice Al1 W.last.length kl1) rfl (.one (hb := .sub f) rfl)) (.v (fun _ f => .move rfl) (.v (fun _ f => .nilCheck rfl) (.v (fun _ f => .fieldAddr rfl) (.v (fun _ f => .load (v := .int .u64 W.n) rfl (.one (hb := .sub f) rfl)) (.v (fun _ f => .move rfl) (.v (fun _ f => .move rfl) (.v (fun _ f => .move rfl) (.v (fun _ f => .build (out := (⟨W.n, true, tickOf e.pr, W.buyer e, W.seller e, 0, 0, false⟩ : Sn).cells) rfl rfl) ?_))))))))))))
      refine .ef (.buildSlice (out := (⟨W.n, true, tickOf e.pr, W.buyer e, W.seller e, 0, 0, false⟩ : Sn).cells) rfl (by decide) rfl rfl) (fun v hs' ⟨_, _, e⟩ f => by subst e; exact fun y hy => List.mem_cons_of_mem _ (f hy)) ?_
      rintro _ _ ⟨bn, rfl, rfl⟩
      refine .ef (.append (c := W.last.length) (k := 1) (vs := snrows W.last) (news := (⟨W.n, true, tickOf e.pr, W.buyer e, W.seller e, 0, 0, false⟩ : Sn).cells) (h := hl1) rfl rfl ol TakeI.out (fun w' s => Src.of_at s .whole rfl) rfl rfl (by omega) (by omega)) (fun v hs' ⟨_, _, e⟩ f => by subst e; intro y hy; simp at hy; subst hy; simp) ?_
      rintro vl2 _ ⟨hl2, ol2, rfl⟩
      have ol2' : SnOwn vl2 (W.trade1 e).last hl2 := by
        show OwnS _ 8 _ (W.last ++ [_]).length (snrows (W.last ++ [_])) _
        rw [List.length_append, snrows_app]; exact ol2
      clear ol2
      have hI6 : WI (W.trade1 e) ⟨eo1, co1, ep1, cp1, ea1, ca1, vl2, hl2, vc1, hc1⟩ := ⟨hI5.oo, hI5.o, hI5.po, hI5.p, hI5.ao, hI5.a, ol2', hI5.c⟩
      have hB6 := hB.trade1 e
      have hn6 : (W.trade1 e).n = W.n := hn5
      unfold Wt.trades Wt.wash
      dsimp only
      generalize W.trade1 e = W6 at ol2' hI6 hB6 hn6 ⊢
      obtain ⟨Al2, kl2, rfl⟩ := OwnS.slice ol2'
      refine .v (fun _ f => .nilCheck rfl) (.v (fun _ f => .fieldAddr rfl) (.st (.storeL rfl rfl rfl) (.nil ?_)))
      refine .keep (Owb b7 (W.who e.id) (W.side e.id) :: Owb b8 (W.who e.other) (W.side e.other) :: Evb b5 e :: (WZ.H p wn W6.n ⟨eo1, co1, ep1, cp1, ea1, ca1, .slice Al2 W6.last.length kl2, hl2, vc1, hc1⟩ ++ k)) (h := by rw [hn6]; infer_instance) ?_
      clear ol2'
      have ho6 := ho
      refine .mid (X := (Wt × List Al) × Value × WZ × Hp) (fun x => [(0, .pointer (some ⟨p.b, 0, none⟩)), (1, x.2.1), (5, .pointer (some ⟨b5, 0, none⟩)), (7, .pointer (some ⟨b7, 0, none⟩)), (13, .int .i64 (tickOf e.pr))]) (fun x => Owb b7 (W.who e.id) (W.side e.id) :: Evb b5 e :: (WZ.H p wn W.n x.2.2.1 ++ x.2.2.2)) (fun x => x.1 = (if W.who e.id = W.who e.other then Wt.al wn (W6, out) 1 (W.who e.id) e.id 0 else (W6, out)) ∧ WI x.1.1 x.2.2.1 ∧ AlOwn x.2.1 x.1.2 x.2.2.2 ∧ x.1.1.Bd (j + 6) ∧ x.1.1.n = W.n ∧ x.1.2.length ≤ out.length + 1) (.seq ((.region (.v (.fieldAddr rfl) (.v (.load (v := .int .u32 (W.who e.id)) rfl (.one rfl)) (.v (.fieldAddr rfl) (.v (.load (v := .int .u32 (W.who e.other)) rfl (.one rfl)) (.v (.eqi rfl rfl) (.nil ?_))))))))) ?_
      · refine .cond_dec rfl (fun h4 => ?_) (fun h4 => .skip ?_)
        · rw [if_pos h4]
          refine .region (.v (.move rfl) (.v (.move rfl) (.v (.fieldAddr rfl) (.v (.load (v := .int .u32 (W.who e.id)) rfl (.one rfl)) (.v (.fieldAddr rfl) (.v (.load (v := .int .u64 e.id) rfl (.one rfl)) (.v (.build (out := (⟨1, W.who e.id, 0, e.id, 0⟩ : Al).cells) rfl rfl) ?_)))))))
          refine .ef (.callT (WZ.H p wn W6.n ⟨eo1, co1, ep1, cp1, ea1, ca1, .slice Al2 W6.last.length kl2, hl2, vc1, hc1⟩ ++ k) rfl rfl fun w s => alert_ok w p wn hw hI6 hB6 (by omega) (by omega) ho (by omega) 1 (W.who e.id) 0 e.id 0) ?_
          rintro v' _ ⟨_, ⟨z', k', rfl, hI', ho'⟩, rfl⟩
          refine .v (.assign rfl) (.nil ?_)
          rw [hn6]
          exact ⟨(Wt.al wn (W6, out) 1 (W.who e.id) e.id 0, v', z', k'), ⟨rfl, hI', ho', (Wt.Bd.al (z := (W6, out)) hB6 (by show 0 ≤ 8 * W6.n + (j + 5); omega) _ _ _ _).mono (by omega), by rw [(Wt.al_eq wn (W6, out) _ _ _ _).1]; exact hn6, al_len _ _ _ _ _ _⟩, .cons rfl (.cons rfl (.cons rfl (.cons rfl (.cons rfl (.nil _))))), fun _ s => s.take⟩
        · rw [if_neg h4, hn6]
          exact ⟨((W6, out), v, ⟨eo1, co1, ep1, cp1, ea1, ca1, .slice Al2 W6.last.length kl2, hl2, vc1, hc1⟩, k), ⟨rfl, hI6, ho, hB6.mono (by omega), hn6, Nat.le_succ _⟩, .cons rfl (.cons rfl (.cons rfl (.cons rfl (.cons rfl (.nil _))))), fun _ s => s.take⟩
      rintro ⟨⟨W7, out7⟩, v7, z7, k7⟩ ⟨e7, hI7, ho7, hB7, hn7, hl7⟩
      dsimp only at e7 hI7 ho7 hB7 hn7 hl7 ⊢
      rw [← e7]
      clear e7 hI6 hB6 hn6 hI5 hB5
      obtain ⟨eo1, co1, ep1, cp1, ea1, ca1, vl1, hl1, vc1, hc1⟩ := z7
      have ol := hI7.l
      dsimp only at ol
      obtain ⟨Al3, kl3, rfl⟩ := OwnS.slice ol
      have hlen7 := hB7.l
      have hsr := hB7.s
      refine .mid (X := (Wt × List Al) × Value × WZ × Hp) (fun x => [(1, x.2.1)]) (fun x => WZ.H p wn W.n x.2.2.1 ++ x.2.2.2) (fun x => x.1 = jump wn (W7, out7) (tickOf e.pr) (W.who e.id) e.id ∧ WI x.1.1 x.2.2.1 ∧ AlOwn x.2.1 x.1.2 x.2.2.2) (.seq ((.region (.v (.move rfl) (.v (.nilCheck rfl) (.v (.fieldAddr rfl) (.v (.load (v := .slice Al3 W7.last.length kl3) rfl (.one rfl)) (.v (.len rfl) (.v (.move rfl) (.nil ?_)))))))))) ?_
      · refine .block (.loop (X := Nat) (fun i => [(0, .pointer (some ⟨p.b, 0, none⟩)), (1, v7), (5, .pointer (some ⟨b5, 0, none⟩)), (7, .pointer (some ⟨b7, 0, none⟩)), (13, .int .i64 (tickOf e.pr)), (96, .slice Al3 W7.last.length kl3), (97, .int .i64 W7.last.length), (98, .int .i64 i)]) (fun _ => Owb b7 (W.who e.id) (W.side e.id) :: Evb b5 e :: (WZ.H p wn W.n ⟨eo1, co1, ep1, cp1, ea1, ca1, .slice Al3 W7.last.length kl3, hl1, vc1, hc1⟩ ++ k7)) (fun i => i ≤ W7.last.length ∧ ∀ x ∈ W7.last.take i, x.tr = false) (fun i => W7.last.length - i) 0 ⟨Nat.zero_le _, by simp⟩ (.cons rfl (.cons rfl (.cons rfl (.cons rfl (.cons rfl (.cons rfl (.cons rfl (.cons rfl (.nil _))))))))) (fun _ s => s) ?_)
        rintro i ⟨hi, hno⟩
        refine .seq ((.region (.v (.lss rfl rfl) (.nil ?_))))
        refine .seq (.cond_dec rfl (fun h5 => .skip ?_) (fun h5 => .exit ?_))
        · have hil : i < W7.last.length := by omega
          obtain ⟨bq, oq, lq, rfl, -, rfl, -, -, -⟩ := OwnS.some_ ol (by omega)
          have hat := fun hs' hsub => recAt Sn.cells 8 (fun _ => rfl) (z := (i : Int)) (OwnS.at0 (w0 := w0) (own := bl (z.H p wn W.n ++ k)) (hs := hs') ol hsub) hil
          have hfi : W7.last[i].tr = true → W7.last.find? (·.tr) = some W7.last[i] := by
            intro h
            rw [List.find?_eq_some_iff_getElem]
            refine ⟨h, i, hil, rfl, fun j hj => ?_⟩
            have := hno W7.last[j] (List.mem_take_iff_getElem.2 ⟨j, by omega, rfl⟩)
            rw [this]; rfl
          have hts := take_snoc hil
          have hsr := hsr _ (List.getElem_mem hil)
          generalize W7.last[i] = x at hat hfi hts hsr
          refine .seq (.block (.seq ((.region (.v (.indexAddr rfl rfl (by omega) (by omega)) (.v (.loadA (vs := x.cells) rfl (hat _ (fun y hy => by simp at hy; subst hy; simp)) rfl) (.nw .alloc fun b15 => (.st (.sw rfl rfl) (.nil ?_)))))))))
          refine .seq (.seq ((.region (.v (.fieldAddr rfl) (.v (.load (v := .bool x.tr) rfl (.one rfl)) (.v (.not rfl) (.nil ?_)))))))
          refine .cond rfl (fun h6 => .exit ?_) (fun h6 => .skip ?_)
          · have h6 : x.tr = false := by simpa using h6
            refine .region (.v (.addi rfl rfl (by omega)) (.v (.move rfl) (.nil ?_)))
            refine ⟨i + 1, ⟨hil, fun y hy => ?_⟩, by show W7.last.length - (i + 1) < _; omega, .cons rfl (.cons rfl (.cons rfl (.cons rfl (.cons rfl (.cons rfl (.cons rfl (.cons rfl (.nil _)))))))), fun _ s => s.take⟩
            rw [hts] at hy
            rcases List.mem_append.1 hy with hy | hy
            · exact hno y hy
            · have : y = x := by simpa using hy
              subst this; exact h6
          · have h6 : x.tr = true := by simpa using h6
            rw [jump_some (hfi h6)]
            refine .seq (.seq ((.region (.v (.move rfl) (.v (.fieldAddr rfl) (.v (.load (v := .int .i64 x.pr) rfl (.one rfl)) (.v (.subi rfl rfl (by omega)) (.v (.fieldAddr rfl) (.v (.load (v := .int .i64 x.pr) rfl (.one rfl)) (.v (.move rfl) (.v (.subi rfl rfl (by omega)) (.v (.max2 rfl rfl) (.v (.assign rfl) (.nil ?_))))))))))))))
            refine .seq ((.region (.v (.move rfl) (.v (.move rfl) (.v (.nilCheck rfl) (.v (.fieldAddr rfl) (.v (.fieldAddr rfl) (.v (.load (v := .int .i64 wn.mov) rfl (.one rfl)) (.v (.gtr rfl rfl) (.nil ?_))))))))))
            refine .cond_dec rfl (fun h7 => ?_) (fun h7 => .skip ?_)
            · have h7' : wn.mov < farOf (tickOf e.pr) x.pr := h7
              rw [if_pos h7']
              refine .keep (Owb b7 (W.who e.id) (W.side e.id) :: Evb b5 e :: (WZ.H p wn W7.n ⟨eo1, co1, ep1, cp1, ea1, ca1, .slice (some ⟨bq, oq, none⟩) W7.last.length kl3, [(bq, Ch.cells lq 81)], vc1, hc1⟩ ++ k7)) (h := by rw [hn7]; infer_instance) ?_
              refine .region (.v (.move rfl) (.v (.move rfl) (.v (.fieldAddr rfl) (.v (.load (v := .int .u32 (W.who e.id)) rfl (.one rfl)) (.v (.fieldAddr rfl) (.v (.load (v := .int .u64 e.id) rfl (.one rfl)) (.v (.move rfl) (.v (.build (out := (⟨4, W.who e.id, 0, e.id, farOf (tickOf e.pr) x.pr⟩ : Al).cells) rfl rfl) ?_))))))))
              refine .ef (.callT (WZ.H p wn W7.n ⟨eo1, co1, ep1, cp1, ea1, ca1, .slice (some ⟨bq, oq, none⟩) W7.last.length kl3, [(bq, Ch.cells lq 81)], vc1, hc1⟩ ++ k7) rfl rfl fun w s => alert_ok w p wn hw hI7 hB7 (by omega) (by omega) ho7 (by omega) 4 (W.who e.id) 0 e.id (farOf (tickOf e.pr) x.pr)) ?_
              rintro v' _ ⟨_, ⟨z', k', rfl, hI', ho'⟩, rfl⟩
              refine .v (.assign rfl) (.nil ?_)
              refine .exit ?_
              rw [hn7]
              exact ⟨(Wt.al wn (W7, out7) 4 (W.who e.id) e.id (farOf (tickOf e.pr) x.pr), v', z', k'), ⟨rfl, hI', ho'⟩, .cons rfl (.nil _), fun _ s => s.take⟩
            · have h7' : ¬ wn.mov < farOf (tickOf e.pr) x.pr := h7
              rw [if_neg h7']
              refine .exit ?_
              exact ⟨((W7, out7), v7, ⟨eo1, co1, ep1, cp1, ea1, ca1, .slice (some ⟨bq, oq, none⟩) W7.last.length kl3, [(bq, Ch.cells lq 81)], vc1, hc1⟩, k7), ⟨rfl, hI7, ho7⟩, .cons rfl (.nil _), fun _ s => s.take⟩
        · have hil : i = W7.last.length := by omega
          subst hil
          rw [List.take_length] at hno
          rw [jump_none (List.find?_eq_none.2 fun x hx => by rw [hno x hx]; simp)]
          exact ⟨((W7, out7), v7, ⟨eo1, co1, ep1, cp1, ea1, ca1, .slice Al3 W7.last.length kl3, hl1, vc1, hc1⟩, k7), ⟨rfl, hI7, ho7⟩, .cons rfl (.nil _), fun _ s => s.take⟩
      · rintro ⟨R, v8, z8, k8⟩ ⟨e8, hI8, ho8⟩
        dsimp only at e8 hI8 ho8 ⊢
        refine .seq ((.region (.v (.move rfl) (.v (.assign rfl) (.nil ?_)))))
        exact .ret ⟨[_], ⟨rfl, trivial⟩, WZ.H p wn W.n z8 ++ k8, fun _ s => s.take, z8, k8, rfl, by rw [← e8]; exact hI8, by rw [← e8]; exact ho8⟩
end Go.Proofs.Ytcbppikkoelimaa

/- Surveil: Add: events are told. -/
namespace Go.Proofs.Ytcbppikkoelimaa
open Go.V
set_option linter.unusedVariables false
set_option linter.unusedSimpArgs false

theorem Wt.Bd.tick {W : Wt} (h : W.Bd 0) (w : Wn) : (W.tick w).Bd (-8) := by
  have h0 := h.n
  have hd : (W.last.dropWhile fun x => decide (w.span ≤ W.n + 1 - x.at_)).length ≤ W.last.length := (List.dropWhile_sublist _).length_le
  refine ⟨by show 0 ≤ W.n + 1; omega, fun m => ?_, h.z, ?_, fun x hx => ?_, ?_, fun c hc => ?_⟩
  · obtain ⟨⟨a, b⟩, c, d⟩ := h.p m
    show (Bdc (8 * (W.n + 1) + -8) (W.P m).o ∧ Bdc (8 * (W.n + 1) + -8) (W.P m).c) ∧ Bdc (8 * (W.n + 1) + -8) (W.P m).t ∧ Bdc (8 * (W.n + 1) + -8) (W.P m).a
    unfold Bdc at *
    omega
  · have := h.l
    show (((W.last.dropWhile fun x => decide (w.span ≤ W.n + 1 - x.at_)).length : Nat) : Int) ≤ 8 * (W.n + 1) + -8
    omega
  · have := h.s x ((List.dropWhile_sublist _).subset hx)
    show (0 ≤ x.at_ ∧ x.at_ ≤ W.n + 1) ∧ _
    exact ⟨by omega, this.2⟩
  · have := h.k
    show (W.cs.length : Int) ≤ 8 * (W.n + 1) + -8
    omega
  · obtain ⟨a, b⟩ := h.c c hc
    show Bdc (W.n + 1) c.l ∧ Bdc (8 * (W.n + 1) + -8) c.n
    unfold Bdc at *
    omega
theorem Wt.Bd.ev {w : Wn} {z : Wt × List Al} (h : z.1.Bd 0) (e : Ev) : (Wt.ev w z e).1.Bd 0 ∧ (Wt.ev w z e).1.n = z.1.n + 1 ∧ (Wt.ev w z e).2.length ≤ z.2.length + 2 := by
  have h1 := h.tick w
  have hn : (z.1.tick w).n = z.1.n + 1 := rfl
  have h0 := h.n
  unfold Wt.ev
  split
  · obtain ⟨a, b, c⟩ := Wt.Bd.acks (w := w) (z := (z.1.tick w, z.2)) h1 (by show 0 ≤ 8 * (z.1.tick w).n + -8; omega) e
    exact ⟨a.mono (by omega), by rw [b]; exact hn, by have : (z.1.tick w, z.2).2.length = z.2.length := rfl; omega⟩
  · split
    · obtain ⟨a, b, c⟩ := Wt.Bd.trades (w := w) (z := (z.1.tick w, z.2)) h1 (by show 0 ≤ 8 * (z.1.tick w).n + -8; omega) e
      exact ⟨a.mono (by omega), by rw [b]; exact hn, by have : (z.1.tick w, z.2).2.length = z.2.length := rfl; omega⟩
    · split
      · obtain ⟨a, b, c⟩ := Wt.Bd.cancels (w := w) (z := (z.1.tick w, z.2)) h1 (by show 0 ≤ 8 * (z.1.tick w).n + -8; omega) e
        exact ⟨a.mono (by omega), by rw [b]; exact hn, by have : (z.1.tick w, z.2).2.length = z.2.length := rfl; omega⟩
      · exact ⟨h1.mono (by omega), hn, by show z.2.length ≤ _; omega⟩
theorem Wt.Bd.add {w : Wn} : ∀ (l : List Ev) {z : Wt × List Al}, z.1.Bd 0 → (Wt.add w z l).1.Bd 0 ∧ (Wt.add w z l).1.n = z.1.n + l.length ∧ (Wt.add w z l).2.length ≤ z.2.length + 2 * l.length
  | [], z, h => ⟨h, by show z.1.n = z.1.n + (0 : Int); omega, Nat.le_refl _⟩
  | e :: l, z, h => by
    obtain ⟨h1, h2, h3⟩ := Wt.Bd.ev (w := w) h e
    obtain ⟨g1, g2, g3⟩ := Wt.Bd.add l h1
    exact ⟨g1, by show (Wt.add w (Wt.ev w z e) l).1.n = _; rw [g2, h2, List.length_cons]; omega, by show (Wt.add w (Wt.ev w z e) l).2.length ≤ _; rw [List.length_cons]; omega⟩
theorem Wt.Bd.new : Wt.new.Bd 0 := ⟨Int.le_refl 0, fun m => ⟨⟨⟨Int.le_refl 0, Int.le_refl 0⟩, Int.le_refl 0, Int.le_refl 0⟩, ⟨Int.le_refl 0, Int.le_refl 0⟩, Int.le_refl 0, Int.le_refl 0⟩, rfl, by simp [Wt.new], by simp [Wt.new], by simp [Wt.new], by simp [Wt.new]⟩
theorem add_snoc (w : Wn) (z : Wt × List Al) {l : List Ev} {i : Nat} (h : i < l.length) : Wt.add w z (l.take (i + 1)) = Wt.ev w (Wt.add w z (l.take i)) l[i] := by
  unfold Wt.add
  rw [take_snoc h, List.foldl_append]; rfl
structure ADS where
  i : Nat
  z : WZ
  v : Value
  k : Hp
structure TKs where
  m : Nat
  vl : Value
  hl : Hp
set_option maxRecDepth 20000 in
set_option maxHeartbeats 4000000 in
theorem add_ok (w0 : World) (p : WP) (wn : Wn) (hw : wn.Can) {W : Wt} {z : WZ} (hI : WI W z) (hB : W.Bd 0) (l : List Ev) (A : Option Addr) (cap : Nat) (hA : Rd w0 (bl (z.H p wn W.n)) A (erows l)) (hn : W.n + l.length ≤ 700000000) :
    Does Try.prog 9 [.pointer (some ⟨p.b, 0, none⟩), .slice A l.length cap] (z.H p wn W.n) w0 (StepP p wn (W.n + l.length) (Wt.add wn (W, []) l)) := by
  have hz0 := hB.n
  refine Does.less (Does.of (n := 87) Try.func9 rfl rfl rfl rfl ?_)
  refine .seq ((.region (.v (.assign rfl) (.nil ?_))))
  refine .seq ((.region (.v (.assign rfl) (.nil ?_))))
  refine .seq (.seq ((.region (.v (.move rfl) (.v (.len rfl) (.v (.move rfl) (.nil ?_)))))))
  refine .block (.loop (X := ADS) (fun x => [(0, .pointer (some ⟨p.b, 0, none⟩)), (5, x.v), (8, .slice A l.length cap), (9, .int .i64 l.length), (10, .int .i64 x.i)]) (fun x => WZ.H p wn (W.n + x.i) x.z ++ x.k) (fun x => x.i ≤ l.length ∧ WI (Wt.add wn (W, []) (l.take x.i)).1 x.z ∧ AlOwn x.v (Wt.add wn (W, []) (l.take x.i)).2 x.k) (fun x => l.length - x.i) ⟨0, z, .slice none 0 0, []⟩ ⟨Nat.zero_le _, hI, OwnS.nil _ _⟩ (.cons rfl (.cons rfl (.cons rfl (.cons rfl (.cons rfl (.nil _)))))) (fun _ s => by
      have e : W.n + ((0 : Nat) : Int) = W.n := by omega
      show Sat w0 _ (WZ.H p wn (W.n + ((0 : Nat) : Int)) z ++ []) _
      rw [e, List.append_nil]; exact s) ?_)
  rintro ⟨i, z1, v, k⟩ ⟨hi, hI1, ho⟩
  dsimp only at hi hI1 ho ⊢
  refine .seq ((.region (.v (.lss rfl rfl) (.nil ?_))))
  refine .seq (.cond_dec rfl (fun h1 => .skip ?_) (fun h1 => .exit ?_))
  case refine_2 =>
    have hil : i = l.length := by omega
    subst hil
    rw [List.take_length] at hI1 ho
    refine .seq ((.region (.v (.move rfl) (.v (.assign rfl) (.nil ?_)))))
    exact .ret ⟨[_], ⟨rfl, trivial⟩, WZ.H p wn (W.n + l.length) z1 ++ k, fun _ s => s, z1, k, rfl, hI1, ho⟩
  have hil : i < l.length := by omega
  obtain ⟨hB1, hn1, hl1⟩ := Wt.Bd.add (w := wn) (l.take i) (z := (W, [])) hB
  rw [List.length_take, Nat.min_eq_left (by omega)] at hn1 hl1
  have hsn := add_snoc wn (W, []) hil
  obtain ⟨be, oe, rfl, hat⟩ := Rd.recs Ev.cells 13 (fun _ => rfl) hA (by omega) (by omega)
  have hev := fun hs => recAt Ev.cells 13 (fun _ => rfl) (z := (i : Int)) (hat hs) hil
  generalize l[i] = e at hev hsn
  generalize hR : Wt.add wn (W, []) (l.take i) = R at hI1 ho hB1 hn1 hl1 hsn
  dsimp only at hn1 hl1
  refine .mid (X := WZ × Value × Hp) (fun x => [(0, .pointer (some ⟨p.b, 0, none⟩)), (5, x.2.1), (8, .slice (some ⟨be, oe, none⟩) l.length cap), (9, .int .i64 l.length), (10, .int .i64 i)]) (fun x => WZ.H p wn (W.n + (i + 1 : Nat)) x.1 ++ x.2.2) (fun x => WI (Wt.ev wn R e).1 x.1 ∧ AlOwn x.2.1 (Wt.ev wn R e).2 x.2.2) (.block (.seq ((.region (.v (.indexAddr rfl rfl (by omega) (by omega)) (.v (.loadA (vs := e.cells) rfl (hev _) rfl) (.nw .alloc fun b7 => (.st (.sw rfl rfl) (.nil ?_))))))))) ?_
  · obtain ⟨eo, co, ep, cp, ea, ca, vl, hl, vc, hc⟩ := z1
    have ol := hI1.l
    dsimp only at ol
    have hcast : W.n + (i : Int) + 1 = W.n + ((i + 1 : Nat) : Int) := by omega
    refine .seq ((.region (.v (.move rfl) (.v (.nilCheck rfl) (.v (.fieldAddr rfl) (.v (.load (v := .int .u64 (W.n + i)) rfl (.one rfl)) (.v (.addU (W.n + ((i + 1 : Nat) : Int)) rfl rfl hcast (by omega)) (.v (.nilCheck rfl) (.v (.fieldAddr rfl) (.st (.storeL rfl rfl rfl) (.nil ?_)))))))))))
    have hsb := hB1.s
    have hsp := hw.1
    -- who is too old goes
    refine .mid (X := TKs) (fun _ => [(0, .pointer (some ⟨p.b, 0, none⟩)), (5, v), (7, .pointer (some ⟨b7, 0, none⟩)), (8, .slice (some ⟨be, oe, none⟩) l.length cap), (9, .int .i64 l.length), (10, .int .i64 i)]) (fun x => Evb b7 e :: (WZ.H p wn (W.n + ((i + 1 : Nat) : Int)) ⟨eo, co, ep, cp, ea, ca, x.vl, x.hl, vc, hc⟩ ++ k)) (fun x => SnOwn x.vl (R.1.tick wn).last x.hl) (.block (.loop (X := TKs) (fun _ => [(0, .pointer (some ⟨p.b, 0, none⟩)), (5, v), (7, .pointer (some ⟨b7, 0, none⟩)), (8, .slice (some ⟨be, oe, none⟩) l.length cap), (9, .int .i64 l.length), (10, .int .i64 i)]) (fun x => Evb b7 e :: (WZ.H p wn (W.n + ((i + 1 : Nat) : Int)) ⟨eo, co, ep, cp, ea, ca, x.vl, x.hl, vc, hc⟩ ++ k)) (fun x => x.m ≤ R.1.last.length ∧ SnOwn x.vl (R.1.last.drop x.m) x.hl ∧ (R.1.last.drop x.m).dropWhile (fun y => decide (wn.span ≤ R.1.n + 1 - y.at_)) = (R.1.tick wn).last) (fun x => R.1.last.length - x.m) ⟨0, vl, hl⟩ ⟨Nat.zero_le _, by rw [List.drop_zero]; exact ol, rfl⟩ (.cons rfl (.cons rfl (.cons rfl (.cons rfl (.cons rfl (.cons rfl (.nil _))))))) (fun _ s => s.take) ?_)) ?_
    · rintro ⟨m, vl, hl⟩ ⟨hm, ol, hdr⟩
      dsimp only at hm ol hdr ⊢
      obtain ⟨Al1, kl1, rfl⟩ := OwnS.slice ol
      generalize hL : R.1.last.drop m = L at ol hdr
      have hLs : ∀ x ∈ L, (0 ≤ x.at_ ∧ x.at_ ≤ R.1.n) := fun x hx => (hsb x (List.mem_of_mem_drop (hL ▸ hx))).1
      have hLl : L.length = R.1.last.length - m := by rw [← hL, List.length_drop]
      cases L with
      | nil =>
        refine .seq (.seq ((.drawK [Wb p.b wn (W.n + ((i + 1 : Nat) : Int)) p.mo p.mp p.ma (.slice Al1 0 kl1) vc] (by intro y hy; simp at hy; subst hy; simp) (by kernel_rfl) (by kernel_rfl) ?_)))
        refine .v (fun _ f => .move rfl) (.v (fun _ f => .nilCheck rfl) (.v (fun _ f => .fieldAddr rfl) (.v (fun _ f => .load (v := .slice Al1 0 kl1) rfl (.one (hb := .sub f) rfl)) (.v (fun _ f => .len rfl) (.v (fun _ f => .no (.gtr rfl rfl) (by simp)) (.v (fun _ f => .move rfl) (.skn 18 rfl (.sk (.v (fun _ f => .pickF rfl rfl rfl) (.nil ?_))))))))))
        refine .cond rfl (fun h => absurd h (by simp)) (fun _ => .exit ?_)
        exact ⟨⟨m, .slice Al1 0 kl1, hl⟩, by rw [← hdr]; exact ol, .cons rfl (.cons rfl (.cons rfl (.cons rfl (.cons rfl (.cons rfl (.nil _)))))), fun _ s => s⟩
      | cons x L =>
        obtain ⟨bq, oq, lq, rfl, -, rfl, -, -, -⟩ := OwnS.some_ ol (by simp)
        have hx := hLs x List.mem_cons_self
        have hxa := fun hs' hsub => fldAt Sn.cells 8 (fun _ => rfl) (l := x :: L) (i := 0) (z := 0) (OwnS.at0 (w0 := w0) (own := bl (z.H p wn W.n)) (hs := hs') ol hsub) (by simp) 0 rfl
        refine .seq (.seq ((.drawK [Wb p.b wn (W.n + ((i + 1 : Nat) : Int)) p.mo p.mp p.ma (.slice (some ⟨bq, oq, none⟩) (x :: L).length kl1) vc, (bq, Ch.cells lq 81)] (by intro y hy; simp at hy; rcases hy with rfl | rfl <;> simp) (by kernel_rfl) (by kernel_rfl) ?_)))
        refine .v (fun _ f => .move rfl) (.v (fun _ f => .nilCheck rfl) (.v (fun _ f => .fieldAddr rfl) (.v (fun _ f => .load (v := .slice (some ⟨bq, oq, none⟩) (x :: L).length kl1) rfl (.one (hb := .sub f) rfl)) (.v (fun _ f => .len rfl) (.v (fun _ f => .yes (.gtr rfl rfl) (by simp)) (.v (fun _ f => .move rfl) ?_))))))
        refine .v (fun _ f => .move rfl) (.v (fun _ f => .nilCheck rfl) (.v (fun _ f => .fieldAddr rfl) (.v (fun _ f => .load (v := .int .u64 (W.n + ((i + 1 : Nat) : Int))) rfl (.one (hb := .sub f) rfl)) (.v (fun _ f => .move rfl) (.v (fun _ f => .nilCheck rfl) (.v (fun _ f => .fieldAddr rfl) (.v (fun _ f => .load (v := .slice (some ⟨bq, oq, none⟩) (x :: L).length kl1) rfl (.one (hb := .sub f) rfl)) (.v (fun _ f => .indexAddr rfl rfl (by omega) (by simp)) (.v (fun _ f => .fieldAddr rfl) (.v (fun hs' f => .load (v := .int .u64 x.at_) rfl (hxa hs' (fun y hy => f (by simp at hy; subst hy; simp)))) (.v (fun _ f => .subU (R.1.n + 1 - x.at_) rfl rfl (by omega) (by omega)) (.v (fun _ f => .move rfl) (.v (fun _ f => .nilCheck rfl) (.v (fun _ f => .fieldAddr rfl) (.v (fun _ f => .fieldAddr rfl) (.v (fun _ f => .load (v := .int .i64 wn.span) rfl (.one (hb := .sub f) rfl)) (.v (fun _ f => .convE wn.span rfl (wrap_u64_in (by omega))) (.v (fun _ f => .geq rfl rfl) (.v (fun _ f => .pickT rfl rfl rfl) (.nil ?_))))))))))))))))))))
        refine .cond_dec rfl (fun h2 => .skip ?_) (fun h2 => .exit ?_)
        · have oc := OwnS.cut ol (i := 1) (by simp) (by omega)
          rw [List.dropWhile_cons, if_pos (decide_eq_true h2)] at hdr
          have hLd : R.1.last.drop (m + 1) = L := by rw [← List.drop_drop, hL]; rfl
          refine .block ((.region (.v (.move rfl) (.v (.move rfl) (.v (.nilCheck rfl) (.v (.fieldAddr rfl) (.v (.load (v := .slice (some ⟨bq, oq, none⟩) (x :: L).length kl1) rfl (.one rfl)) (.v (.slLo rfl rfl (by omega) (by simp; omega)) (.v (.nilCheck rfl) (.v (.fieldAddr rfl) (.st (.storeL rfl rfl rfl) (.nil ?_))))))))))))
          refine ⟨⟨m + 1, .slice (cutA (some ⟨bq, oq, none⟩) kl1 (1 : Int).toNat 8) ((x :: L).length - (1 : Int).toNat) (kl1 - (1 : Int).toNat), [(bq, Ch.cells lq 81)]⟩, ⟨by show m + 1 ≤ _; rw [List.length_cons] at hLl; omega, ?_, by dsimp only; rw [hLd]; exact hdr⟩, by show R.1.last.length - (m + 1) < R.1.last.length - m; rw [List.length_cons] at hLl; omega, .cons rfl (.cons rfl (.cons rfl (.cons rfl (.cons rfl (.cons rfl (.nil _)))))), fun _ s => s.take⟩
          dsimp only
          rw [hLd]
          exact oc
        · rw [List.dropWhile_cons, if_neg (by simpa using h2)] at hdr
          exact ⟨⟨m, .slice (some ⟨bq, oq, none⟩) (x :: L).length kl1, [(bq, Ch.cells lq 81)]⟩, by rw [← hdr]; exact ol, .cons rfl (.cons rfl (.cons rfl (.cons rfl (.cons rfl (.cons rfl (.nil _)))))), fun _ s => s⟩
    · rintro ⟨m, vl2, hl2⟩ ol2
      dsimp only at ol2 ⊢
      have hBt := (hB1.tick wn).mono (show (-8 : Int) ≤ 0 by omega)
      have hIt : WI (R.1.tick wn) ⟨eo, co, ep, cp, ea, ca, vl2, hl2, vc, hc⟩ := ⟨hI1.oo, hI1.o, hI1.po, hI1.p, hI1.ao, hI1.a, ol2, hI1.c⟩
      have hnt : (R.1.tick wn).n = W.n + ((i + 1 : Nat) : Int) := by show R.1.n + 1 = _; omega
      generalize (⟨eo, co, ep, cp, ea, ca, vl2, hl2, vc, hc⟩ : WZ) = z2 at hIt ⊢
      unfold Wt.ev
      generalize R.1.tick wn = Wt' at hBt hIt hnt
      rw [← hnt]
      have hN : Wt'.n ≤ 700000000 := by omega
      have hl1' : R.2.length ≤ 2 * i := by simpa using hl1
      refine .block (.seq ((.region (.v (.fieldAddr rfl) (.v (.load (v := .int .i64 e.kind) rfl (.one rfl)) (.v (.eqi rfl rfl) (.v (.assign rfl) (.nil ?_))))))))
      refine .cond_dec rfl (fun h3 => ?_) (fun h3 => ?_)
      · rw [if_pos h3]
        refine .region (.v (.move rfl) (.v (.move rfl) (.v (.loadA (vs := e.cells) rfl .whole rfl) ?_)))
        refine .ef (.callT (WZ.H p wn Wt'.n z2 ++ k) rfl rfl fun w s => acks_ok w p wn hw hIt hBt (by omega) (by omega) ho (by omega) e) ?_
        rintro v' _ ⟨_, ⟨z', k', rfl, hI', ho'⟩, rfl⟩
        refine .v (.assign rfl) (.nil ?_)
        exact ⟨(z', v', k'), ⟨hI', ho'⟩, .cons rfl (.cons rfl (.cons rfl (.cons rfl (.cons rfl (.nil _))))), fun _ s => s.take⟩
      · rw [if_neg h3]
        refine .seq ((.region (.v (.fieldAddr rfl) (.v (.load (v := .int .i64 e.kind) rfl (.one rfl)) (.v (.eqi rfl rfl) (.v (.assign rfl) (.nil ?_)))))))
        refine .cond_dec rfl (fun h4 => ?_) (fun h4 => ?_)
        · rw [if_pos h4]
          refine .region (.v (.move rfl) (.v (.move rfl) (.v (.loadA (vs := e.cells) rfl .whole rfl) ?_)))
          refine .ef (.callT (WZ.H p wn Wt'.n z2 ++ k) rfl rfl fun w s => wtrades_ok w p wn hw hIt hBt (by omega) (by omega) ho (by omega) e) ?_
          rintro v' _ ⟨_, ⟨z', k', rfl, hI', ho'⟩, rfl⟩
          refine .v (.assign rfl) (.nil ?_)
          exact ⟨(z', v', k'), ⟨hI', ho'⟩, .cons rfl (.cons rfl (.cons rfl (.cons rfl (.cons rfl (.nil _))))), fun _ s => s.take⟩
        · rw [if_neg h4]
          refine .seq ((.region (.v (.fieldAddr rfl) (.v (.load (v := .int .i64 e.kind) rfl (.one rfl)) (.v (.eqi rfl rfl) (.v (.move rfl) (.and (b2 := decide (e.reason = 1)) 76 79 3 3 rfl rfl (fun g2 => .v (.fieldAddr rfl) (.v (.load (v := .int .i64 e.reason) rfl (.one rfl)) (.v (.eqi rfl rfl) (.nil ⟨rfl, rfl, rfl, rfl⟩)))) (.v (.assign rfl) (.nil ?_)))))))))
          refine .cond rfl (fun h5 => ?_) (fun h5 => .skip ?_)
          · rw [Bool.and_eq_true, decide_eq_true_eq, decide_eq_true_eq] at h5
            rw [if_pos h5]
            refine .region (.v (.move rfl) (.v (.move rfl) (.v (.loadA (vs := e.cells) rfl .whole rfl) ?_)))
            refine .ef (.callT (WZ.H p wn Wt'.n z2 ++ k) rfl rfl fun w s => cancels_ok w p wn hw hIt hBt (by omega) (by omega) ho (by omega) e) ?_
            rintro v' _ ⟨_, ⟨z', k', rfl, hI', ho'⟩, rfl⟩
            refine .v (.assign rfl) (.nil ?_)
            exact ⟨(z', v', k'), ⟨hI', ho'⟩, .cons rfl (.cons rfl (.cons rfl (.cons rfl (.cons rfl (.nil _))))), fun _ s => s.take⟩
          · have h5 : ¬ (e.kind = 4 ∧ e.reason = 1) := fun hh => by rw [decide_eq_true hh.1, decide_eq_true hh.2] at h5; cases h5
            rw [if_neg h5]
            exact ⟨(z2, v, k), ⟨hIt, ho⟩, .cons rfl (.cons rfl (.cons rfl (.cons rfl (.cons rfl (.nil _))))), fun _ s => s.take⟩
  · rintro ⟨z2, v2, k2⟩ ⟨hI2, ho2⟩
    dsimp only at hI2 ho2 ⊢
    refine .region (.v (.addi rfl rfl (by omega)) (.v (.move rfl) (.nil ?_)))
    exact ⟨⟨i + 1, z2, v2, k2⟩, ⟨hil, by rw [hsn]; exact hI2, by rw [hsn]; exact ho2⟩, by show l.length - (i + 1) < _; omega, .cons rfl (.cons rfl (.cons rfl (.cons rfl (.cons rfl (.nil _))))), fun _ s => s⟩
end Go.Proofs.Ytcbppikkoelimaa

/- Surveil: New, Count, Cases, and what the laws compare with. -/
namespace Go.Proofs.Ytcbppikkoelimaa
open Go.V
set_option linter.unusedVariables false
set_option linter.unusedSimpArgs false

abbrev AlL : List Lf := [.i .i64, .i .u32, .i .u64, .i .u64, .i .i64]
abbrev CsL : List Lf := [.i .i64, .i .u32, .i .u64, .i .u64, .i .i64, .b]
theorem Al.oks (x : Al) : V.oks AlL x.cells := ⟨rfl, rfl, rfl, rfl, rfl, trivial⟩
theorem Cs.oks (x : Cs) : V.oks CsL x.cells := ⟨rfl, rfl, rfl, rfl, rfl, trivial, trivial⟩
set_option maxRecDepth 10000 in
theorem alerts_ok (w : World) (A B : Option Addr) (len ca cb : Nat) (l : List Al) (hA : Rd w [] A (l.flatMap Al.cells)) (hB : Rd w [] B (l.flatMap Al.cells)) (hl : len = l.length) (hb : len ≤ 3518437208883) :
    Is Try.prog 10 [.slice A len ca, .slice B len cb] w (.bool true) := by
  refine Does.pure (Does.of (n := 26) Try.func10 rfl rfl rfl rfl ?_)
  refine .seq ((.region (.v (.assign rfl) (.nil ?_))))
  refine .seq (.seq ((.region (.v (.move rfl) (.v (.len rfl) (.v (.move rfl) (.v (.len rfl) (.v (.nei rfl rfl) (.nil ?_)))))))))
  refine .cond_dec rfl (fun g => absurd rfl g) (fun g => .skip ?_)
  refine .seq (.seq ((.region (.v (.assign rfl) (.nil ?_)))))
  refine .block (.loop (X := Nat) (fun i => [(0, .slice A len ca), (1, .slice B len cb), (5, .int .i64 i)]) (fun _ => []) (fun i => i ≤ len) (fun i => len - i) 0 (by omega) (.cons rfl (.cons rfl (.cons rfl (.nil _)))) (fun _ s => s) ?_)
  intro i hi
  refine .seq (.seq ((.region (.v (.move rfl) (.v (.move rfl) (.v (.len rfl) (.v (.lss rfl rfl) (.nil ?_))))))))
  refine .cond_dec rfl (fun g2 => .skip ?_) (fun g2 => .exit ?_)
  · have hil : i < l.length := by omega
    obtain ⟨b, o, rfl, hc⟩ := Rd.recs Al.cells 5 (fun _ => rfl) hA (by omega) (by omega)
    obtain ⟨b', o', rfl, hc'⟩ := Rd.recs Al.cells 5 (fun _ => rfl) hB (by omega) (by omega)
    have q := fun hs => recAt Al.cells 5 (fun _ => rfl) (z := (i : Int)) (hc hs) hil
    have q' := fun hs => recAt Al.cells 5 (fun _ => rfl) (z := (i : Int)) (hc' hs) hil
    generalize l[i] = x at q q'
    refine .seq (.block (.seq ((.drawS (by kernel_rfl) (by kernel_rfl) (.v (.move rfl) (.v (.move rfl) (.v (.indexAddr rfl rfl (by omega) (by omega)) (.v (.loadA (vs := Al.cells x) rfl (q _) rfl) (.v (.move rfl) (.v (.move rfl) (.v (.indexAddr rfl rfl (by omega) (by omega)) (.v (.loadA (vs := Al.cells x) rfl (q' _) rfl) (.v (.neA rfl rfl (Al.oks x) (Al.oks x)) (.nil ?_))))))))))))))
    refine .cond rfl (fun g3 => absurd g3 (by rw [(cellsEq_iff (Al.oks x) (Al.oks x)).2 rfl]; simp)) (fun _ => .skip ?_)
    refine .region (.v (.move rfl) (.v (.addi rfl rfl (by omega)) (.v (.assign rfl) (.nil ?_))))
    exact ⟨i + 1, by omega, by omega, .cons rfl (.cons rfl (.cons rfl (.nil _))), fun _ s => s⟩
  · refine .seq ((.region (.v (.assign rfl) (.nil ?_))))
    exact .ret ⟨[_], ⟨rfl, trivial⟩, rfl⟩

set_option maxRecDepth 10000 in
theorem cases_ok (w : World) (A B : Option Addr) (len ca cb : Nat) (l : List Cs) (hA : Rd w [] A (l.flatMap Cs.cells)) (hB : Rd w [] B (l.flatMap Cs.cells)) (hl : len = l.length) (hb : len ≤ 2932031007402) :
    Is Try.prog 12 [.slice A len ca, .slice B len cb] w (.bool true) := by
  refine Does.pure (Does.of (n := 26) Try.func12 rfl rfl rfl rfl ?_)
  refine .seq ((.region (.v (.assign rfl) (.nil ?_))))
  refine .seq (.seq ((.region (.v (.move rfl) (.v (.len rfl) (.v (.move rfl) (.v (.len rfl) (.v (.nei rfl rfl) (.nil ?_)))))))))
  refine .cond_dec rfl (fun g => absurd rfl g) (fun g => .skip ?_)
  refine .seq (.seq ((.region (.v (.assign rfl) (.nil ?_)))))
  refine .block (.loop (X := Nat) (fun i => [(0, .slice A len ca), (1, .slice B len cb), (5, .int .i64 i)]) (fun _ => []) (fun i => i ≤ len) (fun i => len - i) 0 (by omega) (.cons rfl (.cons rfl (.cons rfl (.nil _)))) (fun _ s => s) ?_)
  intro i hi
  refine .seq (.seq ((.region (.v (.move rfl) (.v (.move rfl) (.v (.len rfl) (.v (.lss rfl rfl) (.nil ?_))))))))
  refine .cond_dec rfl (fun g2 => .skip ?_) (fun g2 => .exit ?_)
  · have hil : i < l.length := by omega
    obtain ⟨b, o, rfl, hc⟩ := Rd.recs Cs.cells 6 (fun _ => rfl) hA (by omega) (by omega)
    obtain ⟨b', o', rfl, hc'⟩ := Rd.recs Cs.cells 6 (fun _ => rfl) hB (by omega) (by omega)
    have q := fun hs => recAt Cs.cells 6 (fun _ => rfl) (z := (i : Int)) (hc hs) hil
    have q' := fun hs => recAt Cs.cells 6 (fun _ => rfl) (z := (i : Int)) (hc' hs) hil
    generalize l[i] = x at q q'
    refine .seq (.block (.seq ((.drawS (by kernel_rfl) (by kernel_rfl) (.v (.move rfl) (.v (.move rfl) (.v (.indexAddr rfl rfl (by omega) (by omega)) (.v (.loadA (vs := Cs.cells x) rfl (q _) rfl) (.v (.move rfl) (.v (.move rfl) (.v (.indexAddr rfl rfl (by omega) (by omega)) (.v (.loadA (vs := Cs.cells x) rfl (q' _) rfl) (.v (.neA rfl rfl (Cs.oks x) (Cs.oks x)) (.nil ?_))))))))))))))
    refine .cond rfl (fun g3 => absurd g3 (by rw [(cellsEq_iff (Cs.oks x) (Cs.oks x)).2 rfl]; simp)) (fun _ => .skip ?_)
    refine .region (.v (.move rfl) (.v (.addi rfl rfl (by omega)) (.v (.assign rfl) (.nil ?_))))
    exact ⟨i + 1, by omega, by omega, .cons rfl (.cons rfl (.cons rfl (.nil _))), fun _ s => s⟩
  · refine .seq ((.region (.v (.assign rfl) (.nil ?_))))
    exact .ret ⟨[_], ⟨rfl, trivial⟩, rfl⟩

theorem csrows_length (l : List Cs) : (csrows l).length = l.length * 6 := flatMap_length _ 6 (fun _ => rfl) l
theorem alrows_length (l : List Al) : (alrows l).length = l.length * 5 := flatMap_length _ 5 (fun _ => rfl) l
theorem csrows_ones (l : List Cs) : ones (csrows l) = true := by
  simp only [ones, csrows, List.all_flatMap, List.all_eq_true]
  intro v _ x hx
  simp [Cs.cells] at hx
  rcases hx with rfl | rfl | rfl | rfl | rfl | rfl <;> rfl
theorem alrows_ones (l : List Al) : ones (alrows l) = true := by
  simp only [ones, alrows, List.all_flatMap, List.all_eq_true]
  intro v _ x hx
  simp [Al.cells] at hx
  rcases hx with rfl | rfl | rfl | rfl | rfl <;> rfl
set_option maxRecDepth 10000 in
theorem csclone_ok (w : World) (A : Option Addr) (len cap : Nat) (l : List Cs) (hx : Rd w [] A (csrows l)) (hl : len = l.length) (hb : len ≤ 2932031007402) :
    Does Try.prog 26 [.slice A len cap] [] w (fun v hs => CsOwn v l hs) := by
  refine Does.less (Does.of (n := 8) Try.func26 rfl rfl rfl rfl ?_)
  refine .seq ((.region (.v (.assign rfl) (.nil ?_))))
  refine .seq (.seq ((.region (.v (.move rfl) (.v (.eql_slice_nil rfl rfl) (.nil ?_))))))
  refine .cond rfl (fun h1 => ?_) (fun h1 => .skip ?_)
  · have hA : A = none := by simpa using h1
    subst hA
    have h0 : l.length = 0 := by
      have := congrArg List.length hx.empty
      rw [csrows_length] at this
      simp only [List.length_nil] at this; omega
    have hl0 : l = [] := List.eq_nil_of_length_eq_zero h0
    subst hl0
    refine .seq ((.region (.v (.assign rfl) (.nil ?_))))
    exact .ret ⟨[_], ⟨rfl, trivial⟩, [], fun _ s => s, OwnS.nil _ _⟩
  · refine .seq ((.region (.ef (.buildSlice (out := []) rfl (by decide) rfl rfl) ?_)))
    rintro _ _ ⟨b6, rfl, rfl⟩
    refine .v (.move rfl) ?_
    refine .ef (.append (c := 0) (k := len) (vs := []) (news := csrows l) (h := [(b6, .cells [] 48)]) (fr := []) rfl rfl ⟨rfl, .inr ⟨b6, 0, 0, [], rfl, rfl, by omega, by simp, by simp⟩⟩ (by exact List.Perm.refl _)
      (fun w' s => (hx.keep0 s).src (by rw [csrows_length, hl]) (by omega)) (by rw [csrows_length, hl]) (csrows_ones _) (by omega) (by omega)) ?_
    rintro v _ ⟨h', k', rfl⟩
    refine .v (.assign rfl) (.nil ?_)
    refine .ret ⟨[_], ⟨rfl, trivial⟩, h', fun _ s => by simpa using s, ?_⟩
    rw [Nat.zero_add, hl] at k'
    exact k'
set_option maxRecDepth 20000 in
theorem Cases_ok {w0 w : World} {own : List Nat} {HS : Hp} (s : Sat w0 own HS w) (p : WP) (wn : Wn) (n : Int) {W : Wt} {z : WZ} (hI : WI W z) (hsub : z.H p wn n ⊆ HS) (hb : W.cs.length ≤ 1000000000) :
    Does Try.prog 13 [.pointer (some ⟨p.b, 0, none⟩)] [] w (fun v hs => CsOwn v W.cs hs) := by
  obtain ⟨eo, co, ep, cp, ea, ca, vl, hl, vc, hc⟩ := z
  have oc := hI.c
  dsimp only at oc hsub
  obtain ⟨Ac, kc, rfl⟩ := OwnS.slice oc
  have r1 : Rd w [] (some ⟨p.b, 0, none⟩) (wcells wn n p.mo p.mp p.ma vl (.slice Ac W.cs.length kc)) := Rd.blk (T := 77) (hb := ⟨hsub (by simp)⟩) s
  have r2 : Rd w [] Ac (csrows W.cs) := OwnS.rd oc s (no := []) (fun y hy => hsub (by simp [hy])) (by simp)
  refine Does.less (Does.of (n := 8) Try.func13 rfl rfl rfl rfl ?_)
  refine .seq ((.region (.v (.assign rfl) (.nil ?_))))
  refine .seq ((.region (.v (.move rfl) (.v (.nilCheck rfl) (.v (.fieldAddr rfl) (.v (.load (v := .slice Ac W.cs.length kc) rfl (Rd.cell r1 (i := 10) rfl)) ?_))))))
  refine .ef (.call0 rfl rfl fun w s => csclone_ok w Ac W.cs.length kc W.cs (r2.keep0 s) rfl (by omega)) ?_
  rintro v _ ⟨h, k', rfl⟩
  refine .v (.assign rfl) (.nil ?_)
  exact .ret ⟨[_], ⟨rfl, trivial⟩, h, fun _ s => by simpa using s, k'⟩
set_option maxRecDepth 20000 in
theorem Count_ok {w0 w : World} {own : List Nat} {HS : Hp} (s : Sat w0 own HS w) (p : WP) (wn : Wn) (n : Int) {z : WZ} (hsub : z.H p wn n ⊆ HS) :
    Is Try.prog 14 [.pointer (some ⟨p.b, 0, none⟩)] w (.int .u64 n) := by
  have r1 : Rd w [] (some ⟨p.b, 0, none⟩) (wcells wn n p.mo p.mp p.ma z.vl z.vc) := Rd.blk (T := 77) (hb := ⟨hsub (by simp)⟩) s
  refine Does.pure (Does.of (n := 7) Try.func14 rfl rfl rfl rfl ?_)
  refine .seq ((.region (.v (.assign rfl) (.nil ?_))))
  refine .seq ((.region (.v (.move rfl) (.v (.nilCheck rfl) (.v (.fieldAddr rfl) (.v (.load (v := .int .u64 n) rfl (Rd.cell r1 (i := 5) rfl)) (.v (.assign rfl) (.nil ?_))))))))
  exact .ret ⟨[_], ⟨rfl, trivial⟩, rfl⟩
set_option maxRecDepth 20000 in
theorem within_ok (w : World) (n most : Int) : Is Try.prog 22 [.int .i64 n, .int .i64 most] w (.bool (decide (1 ≤ n ∧ n ≤ most))) := by
  refine Does.pure (Does.of (n := 12) Try.func22 rfl rfl rfl rfl ?_)
  refine .seq ((.region (.v (.assign rfl) (.nil ?_))))
  refine .seq ((.region (.v (.move rfl) (.v (.geq rfl rfl) (.v (.move rfl) (.and (b2 := decide (n ≤ most)) 7 10 3 3 rfl rfl (fun g1 => .v (.move rfl) (.v (.move rfl) (.v (.leq rfl rfl) (.nil ⟨rfl, rfl, rfl, rfl⟩)))) (.v (.assign rfl) (.nil ?_))))))))
  refine .ret ⟨[_], ⟨rfl, trivial⟩, vb ?_⟩
  simp
set_option maxRecDepth 20000 in
theorem Valid_ok (w : World) (wn : Wn) : Is Try.prog 8 [.agg ⟨wn.cells⟩] w (.bool (decide wn.Can)) := by
  refine Does.pure (Does.of (n := 53) Try.func8 rfl rfl rfl rfl ?_)
  refine .seq ((.region (.nw (.box (l := wn.cells) rfl rfl) fun b1 => (.v (.assign rfl) (.nil ?_)))))
  refine .seq ((.region (.v (.fieldAddr rfl) (.v (.load (v := .int .i64 wn.span) rfl (.one rfl)) (.v (.geq rfl rfl) (.v (.move rfl) (.and (b2 := decide (wn.span ≤ 1000)) 6 9 3 3 rfl rfl (fun g1 => .v (.fieldAddr rfl) (.v (.load (v := .int .i64 wn.span) rfl (.one rfl)) (.v (.leq rfl rfl) (.nil ⟨rfl, rfl, rfl, rfl⟩)))) (.v (.move rfl) (.and (b2 := decide (1 ≤ wn.lay)) 11 14 3 3 rfl rfl (fun g2 => .v (.fieldAddr rfl) (.v (.load (v := .int .i64 wn.lay) rfl (.one rfl)) (.v (.geq rfl rfl) (.nil ⟨rfl, rfl, rfl, rfl⟩)))) (.v (.move rfl) (.and (b2 := decide (wn.lay ≤ wn.span)) 16 21 5 5 rfl rfl (fun g3 => .v (.fieldAddr rfl) (.v (.load (v := .int .i64 wn.lay) rfl (.one rfl)) (.v (.fieldAddr rfl) (.v (.load (v := .int .i64 wn.span) rfl (.one rfl)) (.v (.leq rfl rfl) (.nil ⟨rfl, rfl, rfl, rfl⟩)))))) (.v (.move rfl) (.and (b2 := decide (1 ≤ wn.rat)) 23 26 3 3 rfl rfl (fun g4 => .v (.fieldAddr rfl) (.v (.load (v := .int .i64 wn.rat) rfl (.one rfl)) (.v (.geq rfl rfl) (.nil ⟨rfl, rfl, rfl, rfl⟩)))) (.v (.move rfl) (.and (b2 := decide (wn.rat ≤ 1000)) 28 31 3 3 rfl rfl (fun g5 => .v (.fieldAddr rfl) (.v (.load (v := .int .i64 wn.rat) rfl (.one rfl)) (.v (.leq rfl rfl) (.nil ⟨rfl, rfl, rfl, rfl⟩)))) (.v (.move rfl) (.and (b2 := decide (1 ≤ wn.lst)) 33 36 3 3 rfl rfl (fun g6 => .v (.fieldAddr rfl) (.v (.load (v := .int .i64 wn.lst) rfl (.one rfl)) (.v (.geq rfl rfl) (.nil ⟨rfl, rfl, rfl, rfl⟩)))) (.v (.move rfl) (.and (b2 := decide (wn.lst ≤ 1000)) 38 41 3 3 rfl rfl (fun g7 => .v (.fieldAddr rfl) (.v (.load (v := .int .i64 wn.lst) rfl (.one rfl)) (.v (.leq rfl rfl) (.nil ⟨rfl, rfl, rfl, rfl⟩)))) (.v (.move rfl) (.and (b2 := decide (1 ≤ wn.mov)) 43 46 3 3 rfl rfl (fun g8 => .v (.fieldAddr rfl) (.v (.load (v := .int .i64 wn.mov) rfl (.one rfl)) (.v (.geq rfl rfl) (.nil ⟨rfl, rfl, rfl, rfl⟩)))) (.v (.move rfl) (.and (b2 := decide (wn.mov ≤ 262144)) 48 51 3 3 rfl rfl (fun g9 => .v (.fieldAddr rfl) (.v (.load (v := .int .i64 wn.mov) rfl (.one rfl)) (.v (.leq rfl rfl) (.nil ⟨rfl, rfl, rfl, rfl⟩)))) (.v (.assign rfl) (.nil ?_)))))))))))))))))))))))))
  refine .ret ⟨[_], ⟨rfl, trivial⟩, vb ?_⟩
  simp only [Bool.and_eq_true, decide_eq_true_eq]
  unfold Wn.Can
  omega
set_option maxRecDepth 20000 in
theorem SNew_ok (w : World) (wn : Wn) : Does Try.prog 7 [.agg ⟨wn.cells⟩] [] w (fun v hs => (wn.Can ∧ ∃ p z, v = .tuple ⟨[.pointer (some ⟨p.b, 0, none⟩), .int .i64 0]⟩ ∧ hs = WZ.H p wn 0 z ∧ WI Wt.new z) ∨ (¬ wn.Can ∧ v = .tuple ⟨[.pointer none, .int .i64 1]⟩ ∧ hs = [])) := by
  refine Does.less (Does.of (n := 46) Try.func7 rfl rfl rfl rfl ?_)
  refine .seq ((.region (.nw (.box (l := wn.cells) rfl rfl) fun b1 => (.v (.assign rfl) (.v (.assign rfl) (.nil ?_))))))
  refine .seq ((.region (.v (.assign rfl) (.nil ?_))))
  refine .seq (.seq ((.region (.v (.move rfl) (.v (.fieldAddr rfl) (.v (.load (v := .int .i64 wn.span) rfl (.one rfl)) (.pc (v := .bool (decide (1 ≤ wn.span ∧ wn.span ≤ 1000))) rfl rfl (fun w s => within_ok w wn.span 1000) ?_)))))))
  refine .v (.not rfl) (.v (.move rfl) (.or (b2 := !decide (1 ≤ wn.lay ∧ wn.lay ≤ wn.span)) 10 17 7 7 rfl rfl (fun g1 => .v (.move rfl) (.v (.fieldAddr rfl) (.v (.load (v := .int .i64 wn.lay) rfl (.one rfl)) (.v (.fieldAddr rfl) (.v (.load (v := .int .i64 wn.span) rfl (.one rfl)) (.pc (v := .bool (decide (1 ≤ wn.lay ∧ wn.lay ≤ wn.span))) rfl rfl (fun w s => within_ok w wn.lay wn.span) (.v (.not rfl) (.nil ⟨rfl, rfl, rfl, rfl⟩)))))))) (.v (.move rfl) (.or (b2 := !decide (1 ≤ wn.rat ∧ wn.rat ≤ 1000)) 19 24 5 5 rfl rfl (fun g2 => .v (.move rfl) (.v (.fieldAddr rfl) (.v (.load (v := .int .i64 wn.rat) rfl (.one rfl)) (.pc (v := .bool (decide (1 ≤ wn.rat ∧ wn.rat ≤ 1000))) rfl rfl (fun w s => within_ok w wn.rat 1000) (.v (.not rfl) (.nil ⟨rfl, rfl, rfl, rfl⟩)))))) (.v (.move rfl) (.or (b2 := !decide (1 ≤ wn.lst ∧ wn.lst ≤ 1000)) 26 31 5 5 rfl rfl (fun g3 => .v (.move rfl) (.v (.fieldAddr rfl) (.v (.load (v := .int .i64 wn.lst) rfl (.one rfl)) (.pc (v := .bool (decide (1 ≤ wn.lst ∧ wn.lst ≤ 1000))) rfl rfl (fun w s => within_ok w wn.lst 1000) (.v (.not rfl) (.nil ⟨rfl, rfl, rfl, rfl⟩)))))) (.v (.move rfl) (.or (b2 := !decide (1 ≤ wn.mov ∧ wn.mov ≤ 262144)) 33 38 5 5 rfl rfl (fun g4 => .v (.move rfl) (.v (.fieldAddr rfl) (.v (.load (v := .int .i64 wn.mov) rfl (.one rfl)) (.pc (v := .bool (decide (1 ≤ wn.mov ∧ wn.mov ≤ 262144))) rfl rfl (fun w s => within_ok w wn.mov 262144) (.v (.not rfl) (.nil ⟨rfl, rfl, rfl, rfl⟩)))))) (.nil ?_)))))))))
  refine .cond rfl (fun h1 => ?_) (fun h1 => .skip ?_)
  · simp only [Bool.or_eq_true, Bool.not_eq_true', decide_eq_false_iff_not] at h1
    refine .seq ((.region (.v (.assign rfl) (.v (.assign rfl) (.nil ?_)))))
    exact .ret ⟨[_, _], ⟨rfl, rfl, trivial⟩, [], fun _ s => s.sub (List.nil_sublist _), .inr ⟨by unfold Wn.Can; omega, rfl, rfl⟩⟩
  · simp only [Bool.or_eq_false_iff, Bool.not_eq_false', decide_eq_true_eq] at h1
    refine .seq ((.region (.v (.loadA (vs := wn.cells) rfl .whole rfl) (.ef (.makeMap .u64) ?_))))
    rintro _ _ ⟨mo, rfl, rfl⟩
    refine .ef (.makeMap .u32) ?_
    rintro _ _ ⟨mp, rfl, rfl⟩
    refine .ef (.makeMap .u32) ?_
    rintro _ _ ⟨ma, rfl, rfl⟩
    refine .v (.build (out := wcells wn 0 mo mp ma (.slice none 0 0) (.slice none 0 0)) rfl rfl) (.nw (.box (l := wcells wn 0 mo mp ma (.slice none 0 0) (.slice none 0 0)) rfl rfl) fun b45 => (.v (.assign rfl) (.v (.assign rfl) (.nil ?_))))
    exact .ret ⟨[_, _], ⟨rfl, rfl, trivial⟩, WZ.H ⟨b45, mo, mp, ma⟩ wn 0 ⟨[], 0, [], 0, [], 0, .slice none 0 0, [], .slice none 0 0, []⟩, fun _ s => s.take, .inl ⟨by unfold Wn.Can; omega, ⟨b45, mo, mp, ma⟩, ⟨[], 0, [], 0, [], 0, .slice none 0 0, [], .slice none 0 0, []⟩, rfl, rfl, ⟨MOk.nil, fun _ => rfl, MOk.nil, fun _ => rfl, MOk.nil, fun _ => rfl, OwnS.nil _ _, OwnS.nil _ _⟩⟩⟩
end Go.Proofs.Ytcbppikkoelimaa

/- Surveil: the document's watch in memory; find, member, traded, last, tick, layered, New. -/
namespace Go.Proofs.Ytcbppikkoelimaa
open Go.V
set_option linter.unusedVariables false
set_option linter.unusedSimpArgs false
set_option maxRecDepth 20000

abbrev dcells (w : Wn) (vL vO vA vC : Value) : List Value := [.int .i64 w.span, .int .i64 w.lay, .int .i64 w.rat, .int .i64 w.lst, .int .i64 w.mov, vL, vO, vA, vC]
abbrev Db (b : Nat) (w : Wn) (vL vO vA vC : Value) : Nat × Ch := (b, .cells (dcells w vL vO vA vC) 110)
def dsrows (l : List DSn) : List Value := l.flatMap DSn.cells
def dorows (l : List DO) : List Value := l.flatMap DO.cells
theorem DSn.len (x : DSn) : x.cells.length = 22 := rfl
theorem DO.len (x : DO) : x.cells.length = 4 := rfl
abbrev LOwn (v : Value) (l : List DSn) (h : Hp) : Prop := OwnS 114 22 v l.length (dsrows l) h
abbrev OOwn (v : Value) (l : List DO) (h : Hp) : Prop := OwnS 112 4 v l.length (dorows l) h
structure DZ where
  vL : Value
  hL : Hp
  vO : Value
  hO : Hp
  vA : Value
  hA : Hp
  vC : Value
  hC : Hp
abbrev DZ.H (b : Nat) (w : Wn) (z : DZ) : Hp := Db b w z.vL z.vO z.vA z.vC :: (z.hL ++ (z.hO ++ (z.hA ++ z.hC)))
structure DI (D : DW) (z : DZ) : Prop where
  l : LOwn z.vL D.L z.hL
  o : OOwn z.vO D.O z.hO
  a : AlOwn z.vA D.al z.hA
  c : CsOwn z.vC D.cs z.hC
/-- lengths that are not too large -/
structure DW.Sm (D : DW) (k : Nat) : Prop where
  l : D.L.length ≤ k
  o : D.O.length ≤ k
  a : D.al.length ≤ 8 * k
  c : D.cs.length ≤ 8 * k

def fixI (id : Int) (O : List DO) : Int := match dix id O with | some i => i | none => -1
def memO (id : Int) (O : List DO) : Int := match dfind id O with | some o => o.m | none => 0
theorem fixI_hit {id : Int} {O : List DO} {i : Nat} (hi : i < O.length) (h : O[i].id = id) (hf : ∀ j, (hj : j < O.length) → j < i → O[j].id ≠ id) : fixI id O = i ∧ dix id O = some i := by
  have : dix id O = some i := by
    unfold dix
    rw [List.findIdx?_eq_some_iff_getElem]
    exact ⟨hi, by simpa using h, fun j hj => by simpa using hf j (by omega) hj⟩
  unfold fixI
  rw [this]; exact ⟨rfl, rfl⟩
theorem fixI_miss {id : Int} {O : List DO} (hf : ∀ j, (hj : j < O.length) → O[j].id ≠ id) : fixI id O = -1 := by
  have : dix id O = none := by
    unfold dix
    rw [List.findIdx?_eq_none_iff]
    intro x hx
    obtain ⟨j, hj, rfl⟩ := List.getElem_of_mem hx
    simpa using hf j hj
  unfold fixI
  rw [this]
theorem find_ok (w : World) (b : Nat) (wn : Wn) (vL vA vC : Value) (A : Option Addr) (c : Nat) (O : List DO) (id : Int) (rW : Rd w [] (some ⟨b, 0, none⟩) (dcells wn vL (.slice A O.length c) vA vC)) (rO : Rd w [] A (dorows O)) (hb : O.length ≤ 1000000000) :
    Is Try.prog 59 [.pointer (some ⟨b, 0, none⟩), .int .u64 id] w (.int .i64 (fixI id O)) := by
  refine Does.pure (Does.of (n := 26) Try.func59 rfl rfl rfl rfl ?_)
  refine .seq ((.region (.v (.assign rfl) (.nil ?_))))
  refine .seq (.seq ((.region (.v (.assign rfl) (.nil ?_)))))
  refine .block (.loop (X := Nat) (fun i => [(0, .pointer (some ⟨b, 0, none⟩)), (1, .int .u64 id), (5, .int .i64 (i : Nat))]) (fun _ => []) (fun i => i ≤ O.length ∧ ∀ j, (hj : j < O.length) → j < i → O[j].id ≠ id) (fun i => O.length - i) 0 ⟨Nat.zero_le _, fun j hj h => absurd h (by omega)⟩ (.cons rfl (.cons rfl (.cons rfl (.nil _)))) (fun _ s => s) ?_)
  rintro i ⟨hi, hf⟩
  refine .seq (.seq ((.region (.v (.move rfl) (.v (.move rfl) (.v (.nilCheck rfl) (.v (.fieldAddr rfl) (.v (.load (v := .slice A O.length c) rfl (Rd.cell rW (i := 6) rfl)) (.v (.len rfl) (.v (.lss rfl rfl) (.nil ?_)))))))))))
  refine .cond_dec rfl (fun h1 => .skip ?_) (fun h1 => .exit ?_)
  · have hil : i < O.length := by omega
    obtain ⟨b', o', rfl, hc⟩ := Rd.recs DO.cells 4 (fun _ => rfl) rO (by omega) (by omega)
    have q := fun hs => fldAt DO.cells 4 (fun _ => rfl) (z := (i : Int)) (hc hs) hil 0 rfl
    refine .seq (.block (.seq ((.region (.v (.move rfl) (.v (.nilCheck rfl) (.v (.fieldAddr rfl) (.v (.load (v := .slice (some ⟨b', o', none⟩) O.length c) rfl (Rd.cell rW (i := 6) rfl)) (.v (.move rfl) (.v (.indexAddr rfl rfl (by omega) (by omega)) (.v (.fieldAddr rfl) (.v (.load (v := .int .u64 O[i].id) rfl (q _)) (.v (.move rfl) (.v (.eqi rfl rfl) (.nil ?_)))))))))))))))
    refine .cond_dec rfl (fun h2 => ?_) (fun h2 => .skip ?_)
    · refine .seq ((.region (.v (.move rfl) (.v (.assign rfl) (.nil ?_)))))
      refine .ret ⟨[_], ⟨rfl, trivial⟩, ?_⟩
      rw [(fixI_hit hil h2 hf).1]; rfl
    · refine .region (.v (.move rfl) (.v (.addi rfl rfl (by omega)) (.v (.assign rfl) (.nil ?_))))
      exact ⟨i + 1, ⟨by omega, fun j hj hji => by rcases Nat.lt_succ_iff_lt_or_eq.1 hji with h | rfl; exact hf j hj h; exact h2⟩, by omega, .cons rfl (.cons rfl (.cons rfl (.nil _))), fun _ s => s⟩
  · refine .seq ((.region (.v (.assign rfl) (.nil ?_))))
    refine .ret ⟨[_], ⟨rfl, trivial⟩, ?_⟩
    rw [fixI_miss (fun j hj => hf j hj (by omega))]; rfl
theorem fixI_cases (id : Int) (O : List DO) : (fixI id O = -1 ∧ dix id O = none ∧ dfind id O = none) ∨ ∃ i : Nat, fixI id O = i ∧ dix id O = some i ∧ ∃ h : i < O.length, O[i].id = id ∧ dfind id O = some O[i] := by
  unfold fixI
  cases h : dix id O with
  | none => exact .inl ⟨rfl, rfl, dix_none h⟩
  | some i => exact .inr ⟨i, rfl, rfl, dix_some h⟩
theorem member_ok (w : World) (b : Nat) (wn : Wn) (vL vA vC : Value) (A : Option Addr) (c : Nat) (O : List DO) (id : Int) (rW : Rd w [] (some ⟨b, 0, none⟩) (dcells wn vL (.slice A O.length c) vA vC)) (rO : Rd w [] A (dorows O)) (hb : O.length ≤ 1000000000) :
    Is Try.prog 61 [.pointer (some ⟨b, 0, none⟩), .int .u64 id] w (.int .u32 (memO id O)) := by
  refine Does.pure (Does.of (n := 19) Try.func61 rfl rfl rfl rfl ?_)
  refine .seq ((.region (.v (.assign rfl) (.nil ?_))))
  refine .seq ((.region (.v (.move rfl) (.v (.move rfl) (.pc (v := .int .i64 (fixI id O)) rfl rfl (fun w s => find_ok w b wn vL vA vC A c O id (rW.keep0 s) (rO.keep0 s) hb) ?_)))))
  refine .v (.assign rfl) (.nil ?_)
  unfold memO
  rcases fixI_cases id O with ⟨h1, h2, h3⟩ | ⟨i, h1, h2, hi, h3, h4⟩
  · rw [h1, h3]
    refine .seq (.seq ((.region (.v (.move rfl) (.v (.lss rfl rfl) (.nil ?_))))))
    refine .cond_dec rfl (fun h1 => ?_) (fun h1 => absurd (by decide) h1)
    refine .seq ((.region (.v (.assign rfl) (.nil ?_))))
    exact .ret ⟨[_], ⟨rfl, trivial⟩, rfl⟩
  · rw [h1, h4]
    refine .seq (.seq ((.region (.v (.move rfl) (.v (.lss rfl rfl) (.nil ?_))))))
    refine .cond_dec rfl (fun h1 => absurd h1 (by omega)) (fun h1 => .skip ?_)
    obtain ⟨b', o', rfl, hc⟩ := Rd.recs DO.cells 4 (fun _ => rfl) rO (by omega) (by omega)
    have q := fun hs => fldAt DO.cells 4 (fun _ => rfl) (z := (i : Int)) (hc hs) hi 1 rfl
    refine .seq ((.region (.v (.move rfl) (.v (.nilCheck rfl) (.v (.fieldAddr rfl) (.v (.load (v := .slice (some ⟨b', o', none⟩) O.length c) rfl (Rd.cell rW (i := 6) rfl)) (.v (.move rfl) (.v (.indexAddr rfl rfl (by omega) (by omega)) (.v (.fieldAddr rfl) (.v (.load (v := .int .u32 O[i].m) rfl (q _)) (.v (.assign rfl) (.nil ?_))))))))))))
    exact .ret ⟨[_], ⟨rfl, trivial⟩, rfl⟩
theorem tick_ok (w : World) (p : Int) : Is Try.prog 64 [.int .i64 p] w (.int .i64 (tickOf p)) := by
  refine Does.pure (Does.of (n := 10) Try.func64 rfl rfl rfl rfl ?_)
  refine .seq ((.region (.v (.assign rfl) (.nil ?_))))
  refine .seq (.seq ((.region (.v (.move rfl) (.v (.lss rfl rfl) (.v (.move rfl) (.or (b2 := decide (262144 ≤ p)) 5 7 2 2 rfl rfl (fun g1 => .v (.move rfl) (.v (.geq rfl rfl) (.nil ⟨rfl, rfl, rfl, rfl⟩))) (.nil ?_))))))))
  unfold tickOf
  refine .cond rfl (fun h1 => ?_) (fun h1 => .skip ?_)
  · rw [if_pos (by simpa using h1)]
    refine .seq ((.region (.v (.assign rfl) (.nil ?_))))
    exact .ret ⟨[_], ⟨rfl, trivial⟩, rfl⟩
  · rw [if_neg (by simpa using h1)]
    refine .seq ((.region (.v (.move rfl) (.v (.assign rfl) (.nil ?_)))))
    exact .ret ⟨[_], ⟨rfl, trivial⟩, rfl⟩
theorem layered_ok (w : World) (x : DSn) : Is Try.prog 65 [.agg ⟨x.cells⟩] w (.bool (lay x)) := by
  refine Does.pure (Does.of (n := 23) Try.func65 rfl rfl rfl rfl ?_)
  refine .seq ((.region (.nw (.box (l := x.cells) rfl rfl) fun b1 => (.v (.assign rfl) (.nil ?_)))))
  refine .seq ((.region (.v (.fieldAddr rfl) (.v (.fieldAddr rfl) (.v (.load (v := .int .i64 x.e.kind) rfl (.one rfl)) (.v (.eqi rfl rfl) (.v (.move rfl) (.and (b2 := decide (x.e.reason = 1)) 7 11 4 4 rfl rfl (fun g1 => .v (.fieldAddr rfl) (.v (.fieldAddr rfl) (.v (.load (v := .int .i64 x.e.reason) rfl (.one rfl)) (.v (.eqi rfl rfl) (.nil ⟨rfl, rfl, rfl, rfl⟩))))) (.v (.move rfl) (.and (b2 := x.kn) 13 15 2 2 rfl rfl (fun g2 => .v (.fieldAddr rfl) (.v (.load (v := .bool x.kn) rfl (.one rfl)) (.nil ⟨rfl, rfl, rfl, rfl⟩))) (.v (.move rfl) (.and (b2 := !x.od.t) 17 21 4 4 rfl rfl (fun g3 => .v (.fieldAddr rfl) (.v (.fieldAddr rfl) (.v (.load (v := .bool x.od.t) rfl (.one rfl)) (.v (.not rfl) (.nil ⟨rfl, rfl, rfl, rfl⟩))))) (.v (.assign rfl) (.nil ?_))))))))))))))
  exact .ret ⟨[_], ⟨rfl, trivial⟩, rfl⟩
theorem last_ok (w : World) (b : Nat) (wn : Wn) (hw : wn.Can) (vO vA vC : Value) (A : Option Addr) (n c : Nat) (rW : Rd w [] (some ⟨b, 0, none⟩) (dcells wn (.slice A n c) vO vA vC)) (hb : n ≤ 1000000000) :
    Is Try.prog 63 [.pointer (some ⟨b, 0, none⟩)] w (.slice (cutA A c (n - wn.span.toNat) 22) (n - (n - wn.span.toNat)) (c - (n - wn.span.toNat))) := by
  have hsp := hw.1
  obtain ⟨sp, hs⟩ : ∃ sp : Nat, wn.span = sp := ⟨wn.span.toNat, by omega⟩
  refine Does.pure (Does.of (n := 23) Try.func63 rfl rfl rfl rfl ?_)
  refine .seq ((.region (.v (.assign rfl) (.nil ?_))))
  refine .seq ((.drawK [] (fun _ h => h) (by kernel_rfl) (by kernel_rfl) ?_))
  refine .v (fun _ f => .move rfl) (.v (fun _ f => .nilCheck rfl) (.v (fun _ f => .fieldAddr rfl) (.v (fun _ f => .load (v := .slice A n c) rfl (Rd.cell rW (i := 5) rfl)) (.v (fun _ f => .len rfl) (.v (fun _ f => .move rfl) (.v (fun _ f => .nilCheck rfl) (.v (fun _ f => .fieldAddr rfl) (.v (fun _ f => .fieldAddr rfl) (.v (fun _ f => .load (v := .int .i64 wn.span) rfl (Rd.cell rW (i := 0) rfl)) (.v (fun _ f => .subi rfl rfl (by omega)) (.v (fun _ f => .assign rfl) (.nil ?_))))))))))))
  refine .mid (X := Nat) (fun k => [(0, .pointer (some ⟨b, 0, none⟩)), (3, .int .i64 (k : Nat))]) (fun _ => []) (fun k => k = n - wn.span.toNat) (.seq ((.region (.v (.move rfl) (.v (.lss rfl rfl) (.nil ?_)))))) ?_
  · refine .cond_dec rfl (fun h1 => ?_) (fun h1 => .skip ?_)
    · refine .region (.v (.assign rfl) (.nil ?_))
      exact ⟨0, by omega, .cons rfl (.cons rfl (.nil _)), fun _ s => s⟩
    · exact ⟨n - wn.span.toNat, rfl, .cons rfl (.cons (by show some (Value.int .i64 ((n : Int) - wn.span)) = some (.int .i64 ((n - wn.span.toNat : Nat) : Int)); congr 2; omega) (.nil _)), fun _ s => s⟩
  · rintro k rfl
    refine .seq ((.region (.v (.move rfl) (.v (.nilCheck rfl) (.v (.fieldAddr rfl) (.v (.load (v := .slice A n c) rfl (Rd.cell rW (i := 5) rfl)) (.v (.move rfl) (.v (.slLo rfl rfl (by omega) (by omega)) (.v (.assign rfl) (.nil ?_))))))))))
    exact .ret ⟨[_], ⟨rfl, trivial⟩, rfl⟩
theorem traded_ok (w : World) (b : Nat) (wn : Wn) (D : DW) (z : DZ) (hI : DI D z) (id : Int) (hb : D.O.length ≤ 1000000000) :
    Does Try.prog 62 [.pointer (some ⟨b, 0, none⟩), .int .u64 id] (z.H b wn) w (fun _ hs => ∃ z', hs = z'.H b wn ∧ DI { D with O := dtr D.O id } z') := by
  obtain ⟨vL, hL, vO, hO, vA, hA, vC, hC⟩ := z
  obtain ⟨oL, oO, oA, oC⟩ := hI
  dsimp only at oL oO oA oC ⊢
  obtain ⟨AO, cO, rfl⟩ := OwnS.slice oO
  refine Does.less (Does.of (n := 17) Try.func62 rfl rfl rfl rfl ?_)
  refine .seq ((.region (.v (.move rfl) (.v (.move rfl) (.pc (v := .int .i64 (fixI id D.O)) rfl rfl (fun w s => find_ok w b wn vL vA vC AO cO D.O id (Rd.blk (T := 110) (hb := ⟨by simp⟩) s) (OwnS.rd oO s (no := []) (fun y hy => by simp [hy]) (by simp)) hb) ?_)))))
  refine .v (.assign rfl) (.nil ?_)
  unfold dtr
  rcases fixI_cases id D.O with ⟨h1, h2, h3⟩ | ⟨i, h1, h2, hi, h3, h4⟩
  · rw [h1, h2]
    refine .seq ((.region (.v (.move rfl) (.v (.geq rfl rfl) (.nil ?_)))))
    refine .cond_dec rfl (fun h1 => absurd h1 (by decide)) (fun h1 => .skip ?_)
    exact ⟨[], trivial, DZ.H b wn ⟨vL, hL, .slice AO D.O.length cO, hO, vA, hA, vC, hC⟩, fun _ s => s, ⟨vL, hL, .slice AO D.O.length cO, hO, vA, hA, vC, hC⟩, rfl, ⟨oL, oO, oA, oC⟩⟩
  · rw [h1, h2]
    dsimp only
    rw [List.getElem?_eq_getElem hi]
    dsimp only
    obtain ⟨bO, oo, lO, rfl, -, rfl, hcc, hlO, -⟩ := OwnS.some_ oO (by omega)
    have o2 := OwnS.setF DO.cells (fun _ => rfl) oO 3 hi (by omega) (a' := { D.O[i] with t := true }) (v := .bool true) rfl
    refine .keep (Db b wn vL (.slice (some ⟨bO, oo, none⟩) D.O.length cO) vA vC :: (bO, Ch.cells lO 112) :: (hL ++ (hA ++ hC))) ?_
    refine .seq ((.region (.v (.move rfl) (.v (.geq rfl rfl) (.nil ?_)))))
    refine .cond_dec rfl (fun h1 => ?_) (fun h1 => absurd (by omega) h1)
    refine .region (.v (.move rfl) (.v (.nilCheck rfl) (.v (.fieldAddr rfl) (.v (.load (v := .slice (some ⟨bO, oo, none⟩) D.O.length cO) rfl (.one rfl)) (.v (.move rfl) (.v (.indexAddr rfl rfl (by omega) (by omega)) (.v (.fieldAddr rfl) (.st (.store (b := bO) (l := lO) rfl rfl rfl (by omega)) (.nil ?_)))))))))
    rw [Int.toNat_natCast]
    refine ⟨[], trivial, DZ.H b wn ⟨vL, hL, .slice (some ⟨bO, oo, none⟩) D.O.length cO, [(bO, Ch.cells (lO.set (oo + i * 4 + 3) (.bool true)) 112)], vA, hA, vC, hC⟩, fun _ s => s.take, ⟨vL, hL, .slice (some ⟨bO, oo, none⟩) D.O.length cO, [(bO, Ch.cells (lO.set (oo + i * 4 + 3) (.bool true)) 112)], vA, hA, vC, hC⟩, rfl, oL, ?_, oA, oC⟩
    rw [List.length_set] at o2
    show OwnS _ _ _ (List.set _ _ _).length _ _
    rw [List.length_set]; exact o2
end Go.Proofs.Ytcbppikkoelimaa

/- Surveil: Profile, by the document and by the watch; Members of the document. -/
namespace Go
namespace V
section
variable {P : Program} {n : Nat} {w0 : World} {own : List Nat} {e : Env} {hs : Hp}
theorem Val.addM {T U : Nat} {x y : Operand} {i j : Int} (hx : ev e x = some (.int .u64 i)) (hy : ev e y = some (.int .u64 j)) : Val P n w0 own e hs (.binOp .add T x y U) (.int .u64 ((i + j) % 18446744073709551616)) := by
  have := Val.add (P := P) (n := n) (w0 := w0) (own := own) (hs := hs) (T := T) (U := U) hx hy
  rw [u64w] at this; exact this
end
end V
end Go
namespace Go.Proofs.Ytcbppikkoelimaa
open Go.V
set_option linter.unusedVariables false
set_option linter.unusedSimpArgs false
set_option maxRecDepth 20000

theorem lprof_bd (m : Int) : ∀ (L : List DSn), (0 ≤ (lprof L m).o ∧ (lprof L m).o ≤ L.length) ∧ (0 ≤ (lprof L m).c ∧ (lprof L m).c ≤ L.length) ∧ (0 ≤ (lprof L m).t ∧ (lprof L m).t ≤ 2 * L.length) ∧ (lprof L m).a = 0 := by
  suffices h : ∀ (k : Nat) (L : List DSn), L.length = k → (0 ≤ (lprof L m).o ∧ (lprof L m).o ≤ L.length) ∧ (0 ≤ (lprof L m).c ∧ (lprof L m).c ≤ L.length) ∧ (0 ≤ (lprof L m).t ∧ (lprof L m).t ≤ 2 * L.length) ∧ (lprof L m).a = 0 from fun L => h _ L rfl
  intro k
  induction k with
  | zero =>
    intro L h
    have := List.eq_nil_of_length_eq_zero h
    subst this
    simp [lprof]
  | succ k ih =>
    intro L h
    obtain ⟨L', x, rfl⟩ : ∃ L' x, L = L' ++ [x] := ⟨L.dropLast, L.getLast (by intro h'; rw [h'] at h; simp at h), by rw [List.dropLast_concat_getLast]⟩
    rw [List.length_append, List.length_singleton] at h
    obtain ⟨h1, h2, h3, h4⟩ := ih L' (by omega)
    rw [lprof_snoc, List.length_append, List.length_singleton]
    unfold pstep
    split
    · split
      · refine ⟨?_, ?_, ?_, h4⟩ <;> (try dsimp only) <;> omega
      · refine ⟨?_, ?_, ?_, h4⟩ <;> omega
    · split
      · dsimp only
        split <;> split <;> refine ⟨?_, ?_, ?_, h4⟩ <;> (try dsimp only) <;> omega
      · split
        · split
          · refine ⟨?_, ?_, ?_, h4⟩ <;> (try dsimp only) <;> omega
          · refine ⟨?_, ?_, ?_, h4⟩ <;> omega
        · refine ⟨?_, ?_, ?_, h4⟩ <;> omega
theorem acnt_snoc (m : Int) (l : List Al) (a : Al) : acnt m (l ++ [a]) = acnt m l + if a.m = m then 1 else 0 := by
  unfold acnt; rw [List.countP_append]; by_cases h : a.m = m <;> simp [h]
set_option maxHeartbeats 1000000 in
theorem dprofile_ok (w : World) (b : Nat) (wn : Wn) (vO vC : Value) (A A' : Option Addr) (c c' : Nat) (D : DW) (m : Int) (rW : Rd w [] (some ⟨b, 0, none⟩) (dcells wn (.slice A D.L.length c) vO (.slice A' D.al.length c') vC)) (rL : Rd w [] A (dsrows D.L)) (rA : Rd w [] A' (alrows D.al)) (hb : D.L.length ≤ 1000000000) (hb2 : D.al.length ≤ 8000000000) :
    Is Try.prog 42 [.pointer (some ⟨b, 0, none⟩), .int .u32 m] w (.agg ⟨(D.prof m).cells⟩) := by
  refine Does.pure (Does.of (n := 120) Try.func42 rfl rfl rfl rfl ?_)
  refine .seq ((.region (.nw .alloc fun b4 => (.nil ?_))))
  refine .seq ((.region (.v (.build (out := pf0.cells) rfl rfl) (.nw .alloc fun b5 => (.st (.sw rfl rfl) (.nil ?_))))))
  refine .keep [Pb b5 pf0, Pb b4 pf0] ?_
  refine .seq (.seq ((.region (.v (.move rfl) (.v (.eqi rfl rfl) (.nil ?_))))))
  unfold DW.prof
  refine .cond_dec rfl (fun h1 => ?_) (fun h1 => .skip ?_)
  · rw [if_pos h1]
    refine .seq ((.region (.v (.loadA (vs := pf0.cells) rfl .whole rfl) (.st (.sw rfl rfl) (.nil ?_)))))
    exact .ret ⟨[_], ⟨⟨_, rfl, .inr ⟨6, _, inferInstance, rfl, rfl, .whole⟩⟩, trivial⟩, rfl⟩
  rw [if_neg h1]
  refine .seq (.seq ((.region (.v (.assign rfl) (.nil ?_)))))
  refine .block (.loop (X := Nat) (fun i => [(0, .pointer (some ⟨b, 0, none⟩)), (1, .int .u32 m), (4, .pointer (some ⟨b4, 0, none⟩)), (5, .pointer (some ⟨b5, 0, none⟩)), (6, .int .i64 (i : Nat))]) (fun i => [Pb b5 (lprof (D.L.take i) m), Pb b4 pf0]) (fun i => i ≤ D.L.length) (fun i => D.L.length - i) 0 (Nat.zero_le _) (.cons rfl (.cons rfl (.cons rfl (.cons rfl (.cons rfl (.nil _)))))) (fun _ s => s) ?_)
  intro i hi
  refine .seq (.seq ((.region (.v (.move rfl) (.v (.move rfl) (.v (.nilCheck rfl) (.v (.fieldAddr rfl) (.v (.load (v := .slice A D.L.length c) rfl (Rd.cell rW (i := 5) rfl)) (.v (.len rfl) (.v (.lss rfl rfl) (.nil ?_)))))))))))
  refine .cond_dec rfl (fun h2 => .skip ?_) (fun h2 => .exit ?_)
  · have hil : i < D.L.length := by omega
    obtain ⟨b', o', rfl, hc⟩ := Rd.recs DSn.cells 22 (fun _ => rfl) rL (by omega) (by omega)
    have q := fun hs => recAt DSn.cells 22 (fun _ => rfl) (z := (i : Int)) (hc hs) hil
    have hnext : lprof (D.L.take (i + 1)) m = pstep m (lprof (D.L.take i) m) D.L[i] := by rw [List.take_succ_eq_append_getElem hil, lprof_snoc]
    have hbd := lprof_bd m (D.L.take i)
    rw [List.length_take] at hbd
    generalize D.L[i] = x at q hnext
    generalize lprof (D.L.take i) m = p at hnext hbd ⊢
    obtain ⟨p1, p2, p3, p4⟩ := hbd
    refine .mid (X := Pf) (fun p => [(0, .pointer (some ⟨b, 0, none⟩)), (1, .int .u32 m), (4, .pointer (some ⟨b4, 0, none⟩)), (5, .pointer (some ⟨b5, 0, none⟩)), (6, .int .i64 (i : Nat))]) (fun p => [Pb b5 p, Pb b4 pf0]) (fun q => q = pstep m p x) (.block (.seq ((.region (.v (.move rfl) (.v (.nilCheck rfl) (.v (.fieldAddr rfl) (.v (.load (v := .slice (some ⟨b', o', none⟩) D.L.length c) rfl (Rd.cell rW (i := 5) rfl)) (.v (.move rfl) (.v (.indexAddr rfl rfl (by omega) (by omega)) (.v (.loadA (vs := x.cells) rfl (q _) rfl) (.nw .alloc fun b7 => (.st (.sw rfl rfl) (.nil ?_)))))))))))))) ?_
    · refine .keep [(b7, .cells x.cells 114), Pb b5 p, Pb b4 pf0] ?_
      have e0 : Sub [(0, Value.pointer (some ⟨b, 0, none⟩)), (1, .int .u32 m), (4, .pointer (some ⟨b4, 0, none⟩)), (5, .pointer (some ⟨b5, 0, none⟩)), (6, .int .i64 (i : Nat))] [(0, Value.pointer (some ⟨b, 0, none⟩)), (1, .int .u32 m), (4, .pointer (some ⟨b4, 0, none⟩)), (5, .pointer (some ⟨b5, 0, none⟩)), (6, .int .i64 (i : Nat))] := .cons rfl (.cons rfl (.cons rfl (.cons rfl (.cons rfl (.nil _)))))
      refine .seq ((.region (.v (.fieldAddr rfl) (.v (.fieldAddr rfl) (.v (.load (v := .int .i64 x.e.kind) rfl (.one rfl)) (.nil ?_))))))
      refine .block (.seq ((.region (.v (.eqi rfl rfl) (.v (.assign rfl) (.nil ?_))))))
      unfold pstep
      refine .cond_dec rfl (fun h3 => ?_) (fun h3 => ?_)
      · rw [if_pos h3]
        refine .seq ((.region (.v (.fieldAddr rfl) (.v (.fieldAddr rfl) (.v (.load (v := .int .u32 x.e.mb) rfl (.one rfl)) (.v (.move rfl) (.v (.eqi rfl rfl) (.nil ?_))))))))
        refine .cond_dec rfl (fun h4 => ?_) (fun h4 => .skip ?_)
        · rw [if_pos h4]
          refine .region (.v (.fieldAddr rfl) (.v (.load (v := .int .i64 p.o) rfl (.one rfl)) (.v (.addi rfl rfl (by omega)) (.v (.fieldAddr rfl) (.st (.storeL (l' := ({ p with o := p.o + 1 } : Pf).cells) rfl rfl rfl) (.nil ?_))))))
          exact ⟨{ p with o := p.o + 1 }, rfl, .cons rfl (.cons rfl (.cons rfl (.cons rfl (.cons rfl (.nil _))))), fun _ s => s.take⟩
        · rw [if_neg h4]
          exact ⟨p, rfl, .cons rfl (.cons rfl (.cons rfl (.cons rfl (.cons rfl (.nil _))))), fun _ s => s.take⟩
      · rw [if_neg h3]
        refine .seq ((.region (.v (.eqi rfl rfl) (.v (.assign rfl) (.nil ?_)))))
        refine .cond_dec rfl (fun h5 => ?_) (fun h5 => ?_)
        · rw [if_pos h5]
          refine .mid (X := Pf) (fun p => [(0, .pointer (some ⟨b, 0, none⟩)), (1, .int .u32 m), (4, .pointer (some ⟨b4, 0, none⟩)), (5, .pointer (some ⟨b5, 0, none⟩)), (6, .int .i64 (i : Nat)), (7, .pointer (some ⟨b7, 0, none⟩))]) (fun p => [(b7, .cells x.cells 114), Pb b5 p, Pb b4 pf0]) (fun q => q = if x.by_ = m then { p with t := p.t + 1, b := (p.b + x.e.q) % 18446744073709551616 } else p) (.seq ((.region (.v (.fieldAddr rfl) (.v (.load (v := .int .u32 x.by_) rfl (.one rfl)) (.v (.move rfl) (.v (.eqi rfl rfl) (.nil ?_)))))))) ?_
          · refine .cond_dec rfl (fun h6 => ?_) (fun h6 => .skip ?_)
            · rw [if_pos h6]
              refine .seq ((.region (.v (.fieldAddr rfl) (.v (.load (v := .int .i64 p.t) rfl (.one rfl)) (.v (.addi rfl rfl (by omega)) (.v (.fieldAddr rfl) (.st (.storeL (l' := ({ p with t := p.t + 1 } : Pf).cells) rfl rfl rfl) (.nil ?_))))))))
              refine .region (.v (.fieldAddr rfl) (.v (.load (v := .int .u64 p.b) rfl (.one rfl)) (.v (.fieldAddr rfl) (.v (.fieldAddr rfl) (.v (.load (v := .int .u64 x.e.q) rfl (.one rfl)) (.v (.addM rfl rfl) (.v (.fieldAddr rfl) (.st (.storeL (l' := ({ p with t := p.t + 1, b := (p.b + x.e.q) % 18446744073709551616 } : Pf).cells) rfl rfl rfl) (.nil ?_)))))))))
              exact ⟨{ p with t := p.t + 1, b := (p.b + x.e.q) % 18446744073709551616 }, rfl, .cons rfl (.cons rfl (.cons rfl (.cons rfl (.cons rfl (.cons rfl (.nil _)))))), fun _ s => s.take⟩
            · rw [if_neg h6]
              exact ⟨p, rfl, .cons rfl (.cons rfl (.cons rfl (.cons rfl (.cons rfl (.cons rfl (.nil _)))))), fun _ s => s.take⟩
          · have hq : ∀ q : Pf, (q = if x.by_ = m then { p with t := p.t + 1, b := (p.b + x.e.q) % 18446744073709551616 } else p) → q.t ≤ p.t + 1 ∧ 0 ≤ q.t := by
              rintro q rfl; split <;> (try dsimp only) <;> omega
            rintro q hqe
            have hqt := hq q hqe
            dsimp only at hqe ⊢
            rw [← hqe]
            refine .seq ((.region (.v (.fieldAddr rfl) (.v (.load (v := .int .u32 x.se) rfl (.one rfl)) (.v (.move rfl) (.v (.eqi rfl rfl) (.nil ?_)))))))
            refine .cond_dec rfl (fun h7 => ?_) (fun h7 => .skip ?_)
            · rw [if_pos h7]
              refine .seq ((.region (.v (.fieldAddr rfl) (.v (.load (v := .int .i64 q.t) rfl (.one rfl)) (.v (.addi rfl rfl (by omega)) (.v (.fieldAddr rfl) (.st (.storeL (l' := ({ q with t := q.t + 1 } : Pf).cells) rfl rfl rfl) (.nil ?_))))))))
              refine .region (.v (.fieldAddr rfl) (.v (.load (v := .int .u64 q.s) rfl (.one rfl)) (.v (.fieldAddr rfl) (.v (.fieldAddr rfl) (.v (.load (v := .int .u64 x.e.q) rfl (.one rfl)) (.v (.addM rfl rfl) (.v (.fieldAddr rfl) (.st (.storeL (l' := ({ q with t := q.t + 1, s := (q.s + x.e.q) % 18446744073709551616 } : Pf).cells) rfl rfl rfl) (.nil ?_)))))))))
              exact ⟨{ q with t := q.t + 1, s := (q.s + x.e.q) % 18446744073709551616 }, rfl, .cons rfl (.cons rfl (.cons rfl (.cons rfl (.cons rfl (.nil _))))), fun _ s => s.take⟩
            · rw [if_neg h7]
              exact ⟨q, rfl, .cons rfl (.cons rfl (.cons rfl (.cons rfl (.cons rfl (.nil _))))), fun _ s => s.take⟩
        · rw [if_neg h5]
          refine .seq ((.region (.v (.eqi rfl rfl) (.v (.assign rfl) (.nil ?_)))))
          refine .cond_dec rfl (fun h8 => ?_) (fun h8 => .skip ?_)
          · rw [if_pos h8]
            refine .seq ((.region (.v (.fieldAddr rfl) (.v (.load (v := .bool x.kn) rfl (.one rfl)) (.v (.move rfl) (.and (b2 := decide (x.od.m = m)) 79 84 5 5 rfl rfl (fun g1 => .v (.fieldAddr rfl) (.v (.fieldAddr rfl) (.v (.load (v := .int .u32 x.od.m) rfl (.one rfl)) (.v (.move rfl) (.v (.eqi rfl rfl) (.nil ⟨rfl, rfl, rfl, rfl⟩)))))) (.v (.move rfl) (.and (b2 := decide (x.e.reason = 1)) 86 90 4 4 rfl rfl (fun g2 => .v (.fieldAddr rfl) (.v (.fieldAddr rfl) (.v (.load (v := .int .i64 x.e.reason) rfl (.one rfl)) (.v (.eqi rfl rfl) (.nil ⟨rfl, rfl, rfl, rfl⟩))))) (.nil ?_)))))))))
            refine .cond rfl (fun h9 => ?_) (fun h9 => .skip ?_)
            · rw [if_pos (by simpa using h9)]
              refine .region (.v (.fieldAddr rfl) (.v (.load (v := .int .i64 p.c) rfl (.one rfl)) (.v (.addi rfl rfl (by omega)) (.v (.fieldAddr rfl) (.st (.storeL (l' := ({ p with c := p.c + 1 } : Pf).cells) rfl rfl rfl) (.nil ?_))))))
              exact ⟨{ p with c := p.c + 1 }, rfl, .cons rfl (.cons rfl (.cons rfl (.cons rfl (.cons rfl (.nil _))))), fun _ s => s.take⟩
            · rw [if_neg (by rintro ⟨⟨a, b⟩, c⟩; simp [a, b, c] at h9)]
              exact ⟨p, rfl, .cons rfl (.cons rfl (.cons rfl (.cons rfl (.cons rfl (.nil _))))), fun _ s => s.take⟩
          · rw [if_neg h8]
            exact ⟨p, rfl, .cons rfl (.cons rfl (.cons rfl (.cons rfl (.cons rfl (.nil _))))), fun _ s => s.take⟩
    · rintro q hq
      rw [← hnext] at hq
      subst hq
      refine .region (.v (.move rfl) (.v (.addi rfl rfl (by omega)) (.v (.assign rfl) (.nil ?_))))
      exact ⟨i + 1, hil, by show D.L.length - (i + 1) < D.L.length - i; omega, .cons rfl (.cons rfl (.cons rfl (.cons rfl (.cons rfl (.nil _))))), fun _ s => s⟩
  have hiL : i = D.L.length := by omega
  subst hiL
  rw [List.take_length]
  have hbd := (lprof_bd m D.L).2.2.2
  generalize lprof D.L m = p at hbd ⊢
  have hp0 : ({ p with a := ((acnt m (D.al.take 0) : Nat) : Int) } : Pf) = p := by
    obtain ⟨p1, p2, p3, p4, p5, p6⟩ := p
    dsimp only at hbd
    subst hbd; rfl
  refine .seq (.seq ((.region (.v (.assign rfl) (.nil ?_)))))
  refine .block (.loop (X := Nat) (fun i => [(0, .pointer (some ⟨b, 0, none⟩)), (1, .int .u32 m), (4, .pointer (some ⟨b4, 0, none⟩)), (5, .pointer (some ⟨b5, 0, none⟩)), (8, .int .i64 (i : Nat))]) (fun i => [Pb b5 { p with a := acnt m (D.al.take i) }, Pb b4 pf0]) (fun i => i ≤ D.al.length) (fun i => D.al.length - i) 0 (Nat.zero_le _) (.cons rfl (.cons rfl (.cons rfl (.cons rfl (.cons rfl (.nil _)))))) (fun w s => by rw [hp0]; exact s) ?_)
  intro i hi
  refine .seq (.seq ((.region (.v (.move rfl) (.v (.move rfl) (.v (.nilCheck rfl) (.v (.fieldAddr rfl) (.v (.load (v := .slice A' D.al.length c') rfl (Rd.cell rW (i := 7) rfl)) (.v (.len rfl) (.v (.lss rfl rfl) (.nil ?_)))))))))))
  refine .cond_dec rfl (fun h2 => .skip ?_) (fun h2 => .exit ?_)
  · have hil : i < D.al.length := by omega
    obtain ⟨b', o', rfl, hc⟩ := Rd.recs Al.cells 5 (fun _ => rfl) rA (by omega) (by omega)
    have q := fun hs => fldAt Al.cells 5 (fun _ => rfl) (z := (i : Int)) (hc hs) hil 1 rfl
    have hnext : acnt m (D.al.take (i + 1)) = acnt m (D.al.take i) + if D.al[i].m = m then 1 else 0 := by rw [List.take_succ_eq_append_getElem hil, acnt_snoc]
    have hle : acnt m (D.al.take i) ≤ 8000000000 := by
      have h1 : acnt m (D.al.take i) ≤ (D.al.take i).length := List.countP_le_length
      rw [List.length_take] at h1; omega
    generalize acnt m (D.al.take i) = k at hnext hle ⊢
    refine .mid (X := Nat) (fun p => [(0, .pointer (some ⟨b, 0, none⟩)), (1, .int .u32 m), (4, .pointer (some ⟨b4, 0, none⟩)), (5, .pointer (some ⟨b5, 0, none⟩)), (8, .int .i64 (i : Nat))]) (fun k => [Pb b5 { p with a := k }, Pb b4 pf0]) (fun k' => k' = acnt m (D.al.take (i + 1))) (.block (.seq ((.region (.v (.move rfl) (.v (.nilCheck rfl) (.v (.fieldAddr rfl) (.v (.load (v := .slice (some ⟨b', o', none⟩) D.al.length c') rfl (Rd.cell rW (i := 7) rfl)) (.v (.move rfl) (.v (.indexAddr rfl rfl (by omega) (by omega)) (.v (.fieldAddr rfl) (.v (.load (v := .int .u32 D.al[i].m) rfl (q _)) (.v (.move rfl) (.v (.eqi rfl rfl) (.nil ?_))))))))))))))) ?_
    · refine .cond_dec rfl (fun h3 => ?_) (fun h3 => .skip ?_)
      · rw [if_pos h3] at hnext
        refine .region (.v (.fieldAddr rfl) (.v (.load (v := .int .i64 k) rfl (.one rfl)) (.v (.addE ((k + 1 : Nat) : Int) rfl rfl (by omega) (by omega)) (.v (.fieldAddr rfl) (.st (.storeL (l' := ({ p with a := ((k + 1 : Nat) : Int) } : Pf).cells) rfl rfl rfl) (.nil ?_))))))
        exact ⟨k + 1, hnext.symm, .cons rfl (.cons rfl (.cons rfl (.cons rfl (.cons rfl (.nil _))))), fun _ s => s.take⟩
      · rw [if_neg h3] at hnext
        exact ⟨k, hnext.symm, .cons rfl (.cons rfl (.cons rfl (.cons rfl (.cons rfl (.nil _))))), fun _ s => s.take⟩
    · rintro _ rfl
      refine .region (.v (.move rfl) (.v (.addi rfl rfl (by omega)) (.v (.assign rfl) (.nil ?_))))
      exact ⟨i + 1, hil, by show D.al.length - (i + 1) < D.al.length - i; omega, .cons rfl (.cons rfl (.cons rfl (.cons rfl (.cons rfl (.nil _))))), fun _ s => s⟩
  · have hiA : i = D.al.length := by omega
    subst hiA
    rw [List.take_length]
    refine .seq ((.region (.v (.loadA (vs := ({ p with a := ((acnt m D.al : Nat) : Int) } : Pf).cells) rfl .whole rfl) (.st (.sw rfl rfl) (.nil ?_)))))
    exact .ret ⟨[_], ⟨⟨_, rfl, .inr ⟨6, _, inferInstance, rfl, rfl, .whole⟩⟩, trivial⟩, rfl⟩
theorem wprofile_ok (w : World) (p : WP) (wn : Wn) (n : Int) {W : Wt} {z : WZ} (hI : WI W z) (m : Int) :
    Does Try.prog 41 [.pointer (some ⟨p.b, 0, none⟩), .int .u32 m] (z.H p wn n) w (fun v hs => v = .agg ⟨(W.P m).cells⟩ ∧ hs = z.H p wn n) := by
  obtain ⟨b, mo, mp, ma⟩ := p
  obtain ⟨eo, co, ep, cp, ea, ca, vl, hl, vc, hc⟩ := z
  have hP := hI.p m
  dsimp only at hP ⊢
  refine Does.less (Does.of (n := 11) Try.func41 rfl rfl rfl rfl ?_)
  refine .seq ((.region (.nw .alloc fun b4 => (.nil ?_))))
  refine .seq ((.region (.v (.move rfl) (.v (.nilCheck rfl) (.v (.fieldAddr rfl) (.v (.load (v := .map (some mp)) rfl (.one rfl)) (.v (.move rfl) (.v (.lookupE (es := ep) (c := cp) (v := .agg ⟨(W.P m).cells⟩) rfl rfl hP) (.st (.sw rfl rfl) (.nil ?_))))))))))
  exact .ret ⟨[_], ⟨⟨_, rfl, .inr ⟨6, _, inferInstance, rfl, rfl, .whole⟩⟩, trivial⟩, WZ.H ⟨b, mo, mp, ma⟩ wn n ⟨eo, co, ep, cp, ea, ca, vl, hl, vc, hc⟩, fun _ s => s.take, rfl, rfl⟩
end Go.Proofs.Ytcbppikkoelimaa

/- VSO: a row of numbers in memory, as an array: what the library's sorting turns. -/
namespace Go
namespace V
open Go.RowKit
open Go.Sort (swp)
set_option linter.unusedVariables false
set_option linter.unusedSimpArgs false

structure SO (q : IntKind) (E b o c n : Nat) (d : Array Int) (l : List Value) : Prop where
  sz : d.size = n
  own : OwnS E 1 (.slice (some ⟨b, o, none⟩) n c) n (ints q d.toList) [(b, .cells l E)]
section
variable {q : IntKind} {E b o c n : Nat} {d : Array Int} {l : List Value}
theorem ints_get {d : Array Int} {i : Nat} (hi : i < d.size) : (ints q d.toList)[i]? = some (.int q d[i]!) := by
  rw [ints, List.getElem?_map, Array.getElem?_toList, Array.getElem?_eq_getElem hi, getElem!_pos d i hi]; rfl
theorem SO.at_ (k : SO q E b o c n d l) {i : Nat} (hi : i < n) {w0 : World} {own : List Nat} {hs : Hp} (hh : [(b, Ch.cells l E)] ⊆ hs) : At w0 own hs ⟨b, o + i, none⟩ [.int q d[i]!] :=
  k.own.at1 hh (ints_get (by rw [k.sz]; exact hi))
theorem SO.len (k : SO q E b o c n d l) : o + n ≤ l.length := by
  rcases k.own.2 with ⟨_, _, h3⟩ | ⟨b', o', cap, l', h1, h2, h3, h4, h5⟩
  · cases h3
  · cases h1; cases h2; omega
theorem SO.set (k : SO q E b o c n d l) {i : Nat} (hi : i < n) (x : Int) : SO q E b o c n (d.setIfInBounds i x) (l.set (o + i) (.int q x)) := by
  refine ⟨by rw [Array.size_setIfInBounds]; exact k.sz, ?_⟩
  have := OwnS.setAt (v := .int q x) k.own (i := i) (by omega)
  rw [show ints q (d.setIfInBounds i x).toList = (ints q d.toList).set i (.int q x) by rw [Array.toList_setIfInBounds, ints, ints, List.map_set]]
  exact this
theorem SO.swp (k : SO q E b o c n d l) {i j : Nat} (hi : i < n) (hj : j < n) : SO q E b o c n (swp d i j) ((l.set (o + i) (.int q d[j]!)).set (o + j) (.int q d[i]!)) :=
  (k.set hi d[j]!).set hj d[i]!
end
section
variable {P : Program} {m : Nat} {w0 : World} {own : List Nat} {e : Env} {hs : Hp}
theorem Val.indexN {T E b o len cap : Nat} {x y : Operand} (i : Nat) {q : IntKind} (hx : ev e x = some (.slice (some ⟨b, o, none⟩) len cap)) (hy : ev e y = some (.int q i)) [hT : SliceT P T E] [hE : Sz P E 1] (h1 : i < len) :
    Val P m w0 own e hs (.indexAddr T x y) (.pointer (some ⟨b, o + i, none⟩)) := by
  have h := Val.indexAddr1 (P := P) (n := m) (w0 := w0) (own := own) (hs := hs) (T := T) hx hy (by omega) (by omega)
  rw [Int.toNat_natCast] at h; exact h
theorem Val.quoN {T U : Nat} {x y : Operand} {i : Nat} (r : Nat) {j : Int} (hx : ev e x = some (.int .i64 i)) (hy : ev e y = some (.int .i64 j)) (h0 : 0 < j) (hr : (i : Int) / j = r) (hb : i < 4611686018427387904) (hb2 : r < 4611686018427387904) : Val P m w0 own e hs (.binOp .quo T x y U) (.int .i64 r) := by
  have h := Val.quo (P := P) (n := m) (w0 := w0) (own := own) (hs := hs) (T := T) (U := U) hx hy (by omega)
  rw [Int.tdiv_eq_ediv_of_nonneg (by omega), hr, wrap_i64 (by omega)] at h
  exact h
end
end V
end Go

/- slices.insertionSortOrdered, cmp.Less at uint32. -/
namespace Go.Proofs.Ytcbppikkoelimaa
open Go.V
open Go.Sort (ltInt swp insInner insOuter insertionSort)
set_option linter.unusedVariables false
set_option linter.unusedSimpArgs false

abbrev So32 (b o c n : Nat) (d : Array Int) (l : List Value) : Prop := SO .u32 25 b o c n d l
theorem isNaN32_ok (w : World) (x : Int) : Is Try.prog 104 [.int .u32 x] w (.bool false) := by
  refine Does.pure (Does.of (n := 6) Try.func104 rfl rfl rfl rfl ?_)
  refine .seq ((.region (.v (.assign rfl) (.nil ?_))))
  refine .seq ((.region (.v (.move rfl) (.v (.move rfl) (.v (.no (.nei rfl rfl) (by simp)) (.v (.assign rfl) (.nil ?_)))))))
  exact .ret ⟨[_], ⟨rfl, trivial⟩, rfl⟩
theorem less32_ok (w : World) (x y : Int) : Is Try.prog 93 [.int .u32 x, .int .u32 y] w (.bool (ltInt x y)) := by
  refine Does.pure (Does.of (n := 17) Try.func93 rfl rfl rfl rfl ?_)
  refine .seq ((.region (.v (.assign rfl) (.nil ?_))))
  refine .seq ((.region (.v (.move rfl) (.pc (v := .bool false) rfl rfl (fun w s => isNaN32_ok w x) ?_))))
  refine .v (.move rfl) (.and (b2 := true) 7 10 3 3 rfl rfl (fun g1 => absurd g1 (by simp)) (.v (.move rfl) (.or (b2 := ltInt x y) 12 15 3 3 rfl rfl (fun g2 => .v (.move rfl) (.v (.move rfl) (.v (.lss rfl rfl) (.nil ⟨rfl, rfl, rfl, rfl⟩)))) (.v (.assign rfl) (.nil ?_)))))
  exact .ret ⟨[_], ⟨rfl, trivial⟩, vb (by simp)⟩
structure SL where
  i : Nat
  d : Array Int
  l : List Value
set_option maxRecDepth 20000 in
theorem ins32_ok (w : World) {b o c n : Nat} {d : Array Int} {l : List Value} (k : So32 b o c n d l) (a e : Nat) (he : e ≤ n) (ha : a < 4611686018427387904) (hn : n < 4611686018427387904) :
    Does Try.prog 87 [.slice (some ⟨b, o, none⟩) n c, .int .i64 a, .int .i64 e] [(b, .cells l 25)] w (fun _ hs => ∃ l', hs = [(b, .cells l' 25)] ∧ So32 b o c n (insertionSort ltInt d a e) l') := by
  refine Does.of (n := 49) Try.func87 rfl rfl rfl rfl ?_
  refine .seq ((.region (.v (.move rfl) (.v (.addE ((a + 1 : Nat) : Int) rfl rfl (by omega) (by omega)) (.v (.assign rfl) (.nil ?_))))))
  refine .block (.loop (X := SL) (fun x => [(0, .slice (some ⟨b, o, none⟩) n c), (1, .int .i64 a), (2, .int .i64 e), (6, .int .i64 x.i)]) (fun x => [(b, .cells x.l 25)]) (fun x => (a + 1 ≤ x.i ∧ x.i ≤ a + 1 + e) ∧ So32 b o c n x.d x.l ∧ insOuter ltInt a e x.i x.d = insertionSort ltInt d a e) (fun x => a + 1 + e - x.i) ⟨a + 1, d, l⟩ ⟨⟨Nat.le_refl _, by show a + 1 ≤ _; omega⟩, k, rfl⟩ (.cons rfl (.cons rfl (.cons rfl (.cons rfl (.nil _))))) (fun _ s => s) ?_)
  rintro ⟨i, d1, l1⟩ ⟨⟨hi, hi2⟩, k1, h1⟩
  dsimp only at hi hi2 k1 h1 ⊢
  refine .seq (.seq ((.region (.v (.move rfl) (.v (.move rfl) (.v (.lss rfl rfl) (.nil ?_)))))))
  refine .cond_dec rfl (fun g => .skip ?_) (fun g => .exit ?_)
  · have hie : i < e := by omega
    rw [insOuter, if_pos hie] at h1
    refine .seq (.block (.seq ((.region (.v (.move rfl) (.v (.assign rfl) (.nil ?_)))))))
    refine .block (.loop (X := SL) (fun x => [(0, .slice (some ⟨b, o, none⟩) n c), (1, .int .i64 a), (2, .int .i64 e), (6, .int .i64 i), (7, .int .i64 x.i)]) (fun x => [(b, .cells x.l 25)]) (fun x => x.i ≤ i ∧ So32 b o c n x.d x.l ∧ insInner ltInt a x.i x.d = insInner ltInt a i d1) (fun x => x.i) ⟨i, d1, l1⟩ ⟨Nat.le_refl _, k1, rfl⟩ (.cons rfl (.cons rfl (.cons rfl (.cons rfl (.cons rfl (.nil _)))))) (fun _ s => s) ?_)
    rintro ⟨j, d2, l2⟩ ⟨hj, k2, h2⟩
    dsimp only at hj k2 h2 ⊢
    by_cases hja : a < j
    case neg =>
      refine .seq (.seq ((.drawK [(b, .cells l2 25)] (fun _ h => h) (by kernel_rfl) (by kernel_rfl) ?_)))
      refine .v (fun _ f => .move rfl) (.v (fun _ f => .move rfl) (.v (fun _ f => .no (.gtr rfl rfl) (by omega)) (.v (fun _ f => .move rfl) (.and (b2 := true) 19 29 10 10 rfl rfl (fun g1 => absurd g1 (by simp)) (.nil ?_)))))
      refine .cond_false rfl (.exit ?_)
      have hst : insInner ltInt a j d2 = d2 := by
        cases j with
        | zero => rfl
        | succ j => rw [insInner, if_neg]; simp; omega
      rw [hst] at h2
      refine .region (.v (.move rfl) (.v (.addE ((i + 1 : Nat) : Int) rfl rfl (by omega) (by omega)) (.v (.assign rfl) (.nil ?_))))
      exact ⟨⟨i + 1, d2, l2⟩, ⟨⟨by show a + 1 ≤ i + 1; omega, by show i + 1 ≤ _; omega⟩, k2, by rw [h2]; exact h1⟩, by show a + 1 + e - (i + 1) < a + 1 + e - i; omega, .cons rfl (.cons rfl (.cons rfl (.cons rfl (.nil _)))), fun _ s => s⟩
    obtain ⟨j, rfl⟩ : ∃ j', j = j' + 1 := ⟨j - 1, by omega⟩
    have hjn : j + 1 < n := by omega
    have q1 := fun hs' hsub => k2.at_ (w0 := w) (own := [b]) (hs := hs') (i := j + 1) hjn hsub
    have q0 := fun hs' hsub => k2.at_ (w0 := w) (own := [b]) (hs := hs') (i := j) (by omega) hsub
    rw [insInner] at h2
    refine .seq (.seq ((.drawK [(b, .cells l2 25)] (fun _ h => h) (by kernel_rfl) (by kernel_rfl) ?_)))
    refine .v (fun _ f => .move rfl) (.v (fun _ f => .move rfl) (.v (fun _ f => .yes (.gtr rfl rfl) (by omega)) (.v (fun _ f => .move rfl) (.and (b2 := ltInt d2[j + 1]! d2[j]!) 19 29 10 10 rfl rfl (fun g1 => .v (fun _ f => .move rfl) (.v (fun _ f => .move rfl) (.v (fun _ f => .indexN (j + 1) rfl rfl hjn) (.v (fun hs' f => .load (v := .int .u32 d2[j + 1]!) rfl (q1 hs' f)) (.v (fun _ f => .move rfl) (.v (fun _ f => .move rfl) (.v (fun _ f => .subE (j : Int) rfl rfl (by omega) (by omega)) (.v (fun _ f => .indexN j rfl rfl (by omega)) (.v (fun hs' f => .load (v := .int .u32 d2[j]!) rfl (q0 hs' f)) (.pc rfl rfl (fun w s => less32_ok w _ _) (.nil ⟨rfl, rfl, rfl, rfl⟩))))))))))) (.nil ?_)))))
    refine .cond rfl (fun g2 => .skip ?_) (fun g2 => .exit ?_)
    · have g2' : ltInt d2[j + 1]! d2[j]! = true := by simpa using g2
      rw [if_pos (by rw [g2']; simpa using hja)] at h2
      have k3 := k2.swp hjn (show j < n by omega)
      have hlen := k2.len
      generalize hx : d2[j]! = x0 at q0 k3
      generalize hy : d2[j + 1]! = x1 at q1 k3
      refine .seq (.block ((.drawY 15 [0, 1, 2, 3, 4, 5, 6, 7, 8, 9, 10, 11, 12, 13, 14, 15, 16, 17] [(b, .cells l2 25)] (fun _ h => h) (by kernel_rfl) (by kernel_rfl) ?_)))
      refine .x (fun _ _ _ => .move rfl) (.x (fun _ _ _ => .move rfl) (.x (fun _ _ _ => .move rfl) (.x (fun _ _ _ => .move rfl) (.x (fun _ _ _ => .subE (j : Int) rfl rfl (by omega) (by omega)) (.x (fun _ _ _ => .move rfl) (.x (fun _ _ _ => .move rfl) (.x (fun _ _ _ => .subE (j : Int) rfl rfl (by omega) (by omega)) (.x (fun _ _ _ => .indexN j rfl rfl (by omega)) (.v (fun hs' f => .load (v := .int .u32 x0) rfl (q0 hs' f)) (.x (fun _ _ _ => .move rfl) (.x (fun _ _ _ => .move rfl) (.x (fun _ _ _ => .indexN (j + 1) rfl rfl hjn) (.v (fun hs' f => .load (v := .int .u32 x1) rfl (q1 hs' f)) (.x (fun _ _ _ => .indexN (j + 1) rfl rfl hjn) (.st (.store rfl rfl rfl (by omega)) (.x (fun _ _ _ => .indexN j rfl rfl (by omega)) (.st2 (.store rfl rfl rfl (by rw [List.length_set]; omega)) (.nil ?_))))))))))))))))))
      refine .region (.v (.move rfl) (.v (.subE (j : Int) rfl rfl (by omega) (by omega)) (.v (.assign rfl) (.nil ?_))))
      exact ⟨⟨j, swp d2 (j + 1) j, (l2.set (o + (j + 1)) (.int .u32 x0)).set (o + j) (.int .u32 x1)⟩, ⟨by show j ≤ i; omega, k3, h2⟩, by show j < j + 1; omega, .cons rfl (.cons rfl (.cons rfl (.cons rfl (.cons rfl (.nil _))))), fun _ s => s⟩
    · have g2' : ltInt d2[j + 1]! d2[j]! = false := by simpa using g2
      rw [if_neg (by rw [g2']; simp)] at h2
      refine .region (.v (.move rfl) (.v (.addE ((i + 1 : Nat) : Int) rfl rfl (by omega) (by omega)) (.v (.assign rfl) (.nil ?_))))
      exact ⟨⟨i + 1, d2, l2⟩, ⟨⟨by show a + 1 ≤ i + 1; omega, by show i + 1 ≤ _; omega⟩, k2, by rw [h2]; exact h1⟩, by show a + 1 + e - (i + 1) < a + 1 + e - i; omega, .cons rfl (.cons rfl (.cons rfl (.cons rfl (.nil _)))), fun _ s => s⟩
  · rw [insOuter, if_neg (by omega)] at h1
    exact ⟨[], trivial, l1, rfl, by rw [← h1]; exact k1⟩
end Go.Proofs.Ytcbppikkoelimaa

/- slices.siftDownOrdered, heapSortOrdered, reverseRangeOrdered at uint32. -/
namespace Go.Proofs.Ytcbppikkoelimaa
open Go.V
open Go.Sort (ltInt swp siftDown heapBuild heapPop heapSort reverseLoop reverseRange)
set_option linter.unusedVariables false
set_option linter.unusedSimpArgs false

/-- the greater child -/
abbrev Kid (hi first root : Nat) (d : Array Int) (ch : Nat) : Prop := (ch = 2 * root + 2 ∧ 2 * root + 2 < hi ∧ ltInt d[first + (2 * root + 1)]! d[first + (2 * root + 1) + 1]! = true) ∨ (ch = 2 * root + 1 ∧ 2 * root + 1 < hi ∧ ¬ (2 * root + 1 + 1 < hi ∧ ltInt d[first + (2 * root + 1)]! d[first + (2 * root + 1) + 1]! = true))
theorem sift_step {hi first root ch : Nat} {d : Array Int} (h : Kid hi first root d ch) : siftDown ltInt hi first root d = if ltInt d[first + root]! d[first + ch]! = true then siftDown ltInt hi first ch (swp d (first + root) (first + ch)) else d := by
  rcases h with ⟨rfl, h1, h2⟩ | ⟨rfl, h1, h2⟩
  · rw [siftDown, dif_neg (by omega), if_pos (by rw [h2]; simpa using (by omega : 2 * root + 1 + 1 < hi))]
    by_cases hl : ltInt d[first + root]! d[first + (2 * root + 2)]! = true
    · rw [if_neg (by rw [hl]; simp), dif_pos h1, if_pos hl]
    · rw [if_pos (by simpa using hl), if_neg hl]
  · rw [siftDown, dif_neg (by omega), if_neg (by simpa using h2)]
    by_cases hl : ltInt d[first + root]! d[first + (2 * root + 1)]! = true
    · rw [if_neg (by rw [hl]; simp), if_pos hl]
    · rw [if_pos (by simpa using hl), if_neg hl]
set_option maxRecDepth 20000 in
theorem sift32_ok (w : World) {b o c n : Nat} {d : Array Int} {l : List Value} (k : So32 b o c n d l) (lo hi first : Nat) (hf : first + hi ≤ n) (hlo : lo < 2305843009213693952) (hn : n < 2305843009213693952) :
    Does Try.prog 99 [.slice (some ⟨b, o, none⟩) n c, .int .i64 lo, .int .i64 hi, .int .i64 first] [(b, .cells l 25)] w (fun _ hs => ∃ l', hs = [(b, .cells l' 25)] ∧ So32 b o c n (siftDown ltInt hi first lo d) l') := by
  refine Does.of (n := 76) Try.func99 rfl rfl rfl rfl ?_
  refine .seq ((.region (.v (.move rfl) (.v (.assign rfl) (.nil ?_)))))
  refine .block (.loop (X := SL) (fun x => [(0, .slice (some ⟨b, o, none⟩) n c), (2, .int .i64 hi), (3, .int .i64 first), (8, .int .i64 x.i)]) (fun x => [(b, .cells x.l 25)]) (fun x => x.i < 2305843009213693952 ∧ So32 b o c n x.d x.l ∧ siftDown ltInt hi first x.i x.d = siftDown ltInt hi first lo d) (fun x => hi - x.i) ⟨lo, d, l⟩ ⟨hlo, k, rfl⟩ (.cons rfl (.cons rfl (.cons rfl (.cons rfl (.nil _))))) (fun _ s => s) ?_)
  rintro ⟨root, d1, l1⟩ ⟨hr, k1, h1⟩
  dsimp only at hr k1 h1 ⊢
  refine .block (.seq ((.region (.v (.move rfl) (.v (.muli rfl rfl (by omega)) (.v (.addE ((2 * root + 1 : Nat) : Int) rfl rfl (by omega) (by omega)) (.v (.assign rfl) (.nil ?_))))))))
  refine .seq (.seq ((.region (.v (.move rfl) (.v (.move rfl) (.v (.geq rfl rfl) (.nil ?_)))))))
  refine .cond_dec rfl (fun g => .exit ?_) (fun g => .skip ?_)
  · rw [siftDown, dif_pos (by omega)] at h1
    exact ⟨[], trivial, l1, rfl, by rw [← h1]; exact k1⟩
  have hrh : 2 * root + 1 < hi := by omega
  refine .mid (X := Nat) (fun ch => [(0, .slice (some ⟨b, o, none⟩) n c), (2, .int .i64 hi), (3, .int .i64 first), (8, .int .i64 root), (9, .int .i64 ch)]) (fun _ => [(b, .cells l1 25)]) (fun ch => Kid hi first root d1 ch) (.seq ((.drawK [(b, .cells l1 25)] (fun _ h => h) (by kernel_rfl) (by kernel_rfl) ?_))) ?_
  · by_cases hg : 2 * root + 1 + 1 < hi
    case neg =>
      refine .v (fun _ f => .move rfl) (.v (fun _ f => .addE ((2 * root + 1 + 1 : Nat) : Int) rfl rfl (by omega) (by omega)) (.v (fun _ f => .move rfl) (.v (fun _ f => .no (.lss rfl rfl) (by omega)) (.v (fun _ f => .move rfl) (.and (b2 := true) 21 35 14 14 rfl rfl (fun g1 => absurd g1 (by simp)) (.nil ?_))))))
      refine .cond_false rfl (.skip ?_)
      exact ⟨2 * root + 1, .inr ⟨rfl, hrh, fun hh => hg hh.1⟩, .cons rfl (.cons rfl (.cons rfl (.cons rfl (.cons rfl (.nil _))))), fun _ s => s⟩
    have q0 := fun hs' hsub => k1.at_ (w0 := w) (own := [b]) (hs := hs') (i := first + (2 * root + 1)) (by omega) hsub
    have q1 := fun hs' hsub => k1.at_ (w0 := w) (own := [b]) (hs := hs') (i := first + (2 * root + 1) + 1) (by omega) hsub
    refine .v (fun _ f => .move rfl) (.v (fun _ f => .addE ((2 * root + 1 + 1 : Nat) : Int) rfl rfl (by omega) (by omega)) (.v (fun _ f => .move rfl) (.v (fun _ f => .yes (.lss rfl rfl) (by omega)) (.v (fun _ f => .move rfl) (.and (b2 := ltInt d1[first + (2 * root + 1)]! d1[first + (2 * root + 1) + 1]!) 21 35 14 14 rfl rfl (fun g1 => .v (fun _ f => .move rfl) (.v (fun _ f => .move rfl) (.v (fun _ f => .move rfl) (.v (fun _ f => .addE ((first + (2 * root + 1) : Nat) : Int) rfl rfl (by omega) (by omega)) (.v (fun _ f => .indexN (first + (2 * root + 1)) rfl rfl (by omega)) (.v (fun hs' f => .load (v := .int .u32 d1[first + (2 * root + 1)]!) rfl (q0 hs' f)) (.v (fun _ f => .move rfl) (.v (fun _ f => .move rfl) (.v (fun _ f => .move rfl) (.v (fun _ f => .addE ((first + (2 * root + 1) : Nat) : Int) rfl rfl (by omega) (by omega)) (.v (fun _ f => .addE ((first + (2 * root + 1) + 1 : Nat) : Int) rfl rfl (by omega) (by omega)) (.v (fun _ f => .indexN (first + (2 * root + 1) + 1) rfl rfl (by omega)) (.v (fun hs' f => .load (v := .int .u32 d1[first + (2 * root + 1) + 1]!) rfl (q1 hs' f)) (.pc rfl rfl (fun w s => less32_ok w _ _) (.nil ⟨rfl, rfl, rfl, rfl⟩))))))))))))))) (.nil ?_))))))
    refine .cond rfl (fun g2 => ?_) (fun g2 => .skip ?_)
    · have g2' : ltInt d1[first + (2 * root + 1)]! d1[first + (2 * root + 1) + 1]! = true := by simpa using g2
      refine .region (.v (.move rfl) (.v (.addE ((2 * root + 2 : Nat) : Int) rfl rfl (by omega) (by omega)) (.v (.assign rfl) (.nil ?_))))
      exact ⟨2 * root + 2, .inl ⟨rfl, by omega, g2'⟩, .cons rfl (.cons rfl (.cons rfl (.cons rfl (.cons rfl (.nil _))))), fun _ s => s⟩
    · have g2' : ¬ ltInt d1[first + (2 * root + 1)]! d1[first + (2 * root + 1) + 1]! = true := by
        have : ltInt d1[first + (2 * root + 1)]! d1[first + (2 * root + 1) + 1]! = false := by simpa using g2
        rw [this]; simp
      exact ⟨2 * root + 1, .inr ⟨rfl, hrh, fun hh => g2' hh.2⟩, .cons rfl (.cons rfl (.cons rfl (.cons rfl (.cons rfl (.nil _))))), fun _ s => s⟩
  · intro ch hk
    have hch : root < ch ∧ ch < hi := by rcases hk with ⟨h, h2, _⟩ | ⟨h, h2, _⟩ <;> omega
    rw [sift_step hk] at h1
    have q0 := fun hs' hsub => k1.at_ (w0 := w) (own := [b]) (hs := hs') (i := first + root) (by omega) hsub
    have q1 := fun hs' hsub => k1.at_ (w0 := w) (own := [b]) (hs := hs') (i := first + ch) (by omega) hsub
    have k3 := k1.swp (i := first + root) (j := first + ch) (by omega) (by omega)
    have hlen := k1.len
    generalize hx : d1[first + root]! = x0 at q0 k3 h1
    generalize hy : d1[first + ch]! = x1 at q1 k3 h1
    refine .seq (.seq ((.drawK [(b, .cells l1 25)] (fun _ h => h) (by kernel_rfl) (by kernel_rfl) ?_)))
    refine .v (fun _ f => .move rfl) (.v (fun _ f => .move rfl) (.v (fun _ f => .move rfl) (.v (fun _ f => .addE ((first + root : Nat) : Int) rfl rfl (by omega) (by omega)) (.v (fun _ f => .indexN (first + root) rfl rfl (by omega)) (.v (fun hs' f => .load (v := .int .u32 x0) rfl (q0 hs' f)) (.v (fun _ f => .move rfl) (.v (fun _ f => .move rfl) (.v (fun _ f => .move rfl) (.v (fun _ f => .addE ((first + ch : Nat) : Int) rfl rfl (by omega) (by omega)) (.v (fun _ f => .indexN (first + ch) rfl rfl (by omega)) (.v (fun hs' f => .load (v := .int .u32 x1) rfl (q1 hs' f)) (.pc rfl rfl (fun w s => less32_ok w _ _) (.v (fun _ f => .not rfl) (.nil ?_))))))))))))))
    refine .cond rfl (fun g => ?_) (fun g => .skip ?_)
    · rw [if_neg (by simpa using g)] at h1
      exact .ret ⟨[], trivial, l1, rfl, by rw [← h1]; exact k1⟩
    · rw [if_pos (by simpa using g)] at h1
      refine .seq ((.drawY 21 [0, 1, 2, 3, 4, 5, 6, 7, 8, 9, 10, 11, 12, 13, 14, 15, 16, 17, 18, 19, 20, 21, 22, 23] [(b, .cells l1 25)] (fun _ h => h) (by kernel_rfl) (by kernel_rfl) ?_))
      refine .x (fun _ _ _ => .move rfl) (.x (fun _ _ _ => .move rfl) (.x (fun _ _ _ => .move rfl) (.x (fun _ _ _ => .addE ((first + root : Nat) : Int) rfl rfl (by omega) (by omega)) (.x (fun _ _ _ => .move rfl) (.x (fun _ _ _ => .move rfl) (.x (fun _ _ _ => .move rfl) (.x (fun _ _ _ => .addE ((first + ch : Nat) : Int) rfl rfl (by omega) (by omega)) (.x (fun _ _ _ => .move rfl) (.x (fun _ _ _ => .move rfl) (.x (fun _ _ _ => .move rfl) (.x (fun _ _ _ => .addE ((first + ch : Nat) : Int) rfl rfl (by omega) (by omega)) (.x (fun _ _ _ => .indexN (first + ch) rfl rfl (by omega)) (.v (fun hs' f => .load (v := .int .u32 x1) rfl (q1 hs' f)) (.x (fun _ _ _ => .move rfl) (.x (fun _ _ _ => .move rfl) (.x (fun _ _ _ => .move rfl) (.x (fun _ _ _ => .addE ((first + root : Nat) : Int) rfl rfl (by omega) (by omega)) (.x (fun _ _ _ => .indexN (first + root) rfl rfl (by omega)) (.v (fun hs' f => .load (v := .int .u32 x0) rfl (q0 hs' f)) (.x (fun _ _ _ => .indexN (first + root) rfl rfl (by omega)) (.st (.store rfl rfl rfl (by omega)) (.x (fun _ _ _ => .indexN (first + ch) rfl rfl (by omega)) (.st2 (.store rfl rfl rfl (by rw [List.length_set]; omega)) (.nil ?_))))))))))))))))))))))))
      refine .region (.v (.move rfl) (.v (.assign rfl) (.nil ?_)))
      exact ⟨⟨ch, swp d1 (first + root) (first + ch), (l1.set (o + (first + root)) (.int .u32 x1)).set (o + (first + ch)) (.int .u32 x0)⟩, ⟨by show ch < _; omega, k3, h1⟩, by show hi - ch < hi - root; omega, .cons rfl (.cons rfl (.cons rfl (.cons rfl (.nil _)))), fun _ s => s⟩
theorem half_eq (h : Nat) : Int.tdiv ((h : Int) - 1) 2 = (((h - 1) / 2 + 1 : Nat) : Int) - 1 := by
  by_cases h0 : h = 0
  · subst h0; decide
  · rw [Int.tdiv_eq_ediv_of_nonneg (by omega)]; omega
set_option maxRecDepth 20000 in
theorem heap32_ok (w : World) {b o c n : Nat} {d : Array Int} {l : List Value} (k : So32 b o c n d l) (a e : Nat) (hae : a ≤ e) (he : e ≤ n) (hn : n < 2305843009213693952) :
    Does Try.prog 88 [.slice (some ⟨b, o, none⟩) n c, .int .i64 a, .int .i64 e] [(b, .cells l 25)] w (fun _ hs => ∃ l', hs = [(b, .cells l' 25)] ∧ So32 b o c n (heapSort ltInt d a e) l') := by
  obtain ⟨h, rfl⟩ := Nat.exists_eq_add_of_le hae
  have hS : heapSort ltInt d a (a + h) = heapPop ltInt a h (heapBuild ltInt h a ((h - 1) / 2 + 1) d) := by unfold heapSort; rw [Nat.add_sub_cancel_left]
  rw [hS]
  refine Does.of (n := 56) Try.func88 rfl rfl rfl rfl ?_
  refine .seq ((.region (.v (.move rfl) (.v (.assign rfl) (.nil ?_)))))
  refine .seq ((.region (.v (.assign rfl) (.nil ?_))))
  refine .seq ((.region (.v (.move rfl) (.v (.move rfl) (.v (.subE (h : Int) rfl rfl (by omega) (by omega)) (.v (.assign rfl) (.nil ?_)))))))
  refine .seq (.seq ((.region (.v (.move rfl) (.v (.subi rfl rfl (by omega)) (.v (.quo rfl rfl (by decide)) (.v (.assign rfl) (.nil ?_))))))))
  rw [half_eq, wrap_i64 (by omega)]
  generalize hM : heapBuild ltInt h a ((h - 1) / 2 + 1) d = D
  refine .block (.loop (X := SL) (fun x => [(0, .slice (some ⟨b, o, none⟩) n c), (6, .int .i64 a), (7, .int .i64 0), (8, .int .i64 h), (9, .int .i64 ((x.i : Int) - 1))]) (fun x => [(b, .cells x.l 25)]) (fun x => x.i ≤ (h - 1) / 2 + 1 ∧ So32 b o c n x.d x.l ∧ heapBuild ltInt h a x.i x.d = D) (fun x => x.i) ⟨(h - 1) / 2 + 1, d, l⟩ ⟨Nat.le_refl _, k, hM⟩ (.cons rfl (.cons rfl (.cons rfl (.cons rfl (.cons rfl (.nil _)))))) (fun _ s => s) ?_)
  rintro ⟨i, d1, l1⟩ ⟨hi, k1, h1⟩
  dsimp only at hi k1 h1 ⊢
  refine .seq (.seq ((.region (.v (.move rfl) (.v (.geq rfl rfl) (.nil ?_))))))
  refine .cond_dec rfl (fun g => .skip ?_) (fun g => .exit ?_)
  · obtain ⟨i, rfl⟩ : ∃ i', i = i' + 1 := ⟨i - 1, by omega⟩
    rw [show (((i + 1 : Nat) : Int) - 1) = (i : Int) by omega]
    rw [heapBuild] at h1
    refine .seq (.block ((.region (.v (.move rfl) (.v (.move rfl) (.v (.move rfl) (.v (.move rfl) ?_)))))))
    refine .ef (.callT [(b, .cells l1 25)] rfl rfl fun w s => sift32_ok w k1 i h a (by omega) (by omega) hn) ?_
    rintro _ _ ⟨_, ⟨l2, rfl, k2⟩, rfl⟩
    refine .nil ?_
    refine .region (.v (.move rfl) (.v (.subi rfl rfl (by omega)) (.v (.assign rfl) (.nil ?_))))
    exact ⟨⟨i, siftDown ltInt h a i d1, l2⟩, ⟨by show i ≤ _; omega, k2, h1⟩, by show i < i + 1; omega, .cons rfl (.cons rfl (.cons rfl (.cons rfl (.cons rfl (.nil _))))), fun _ s => s.take⟩
  have hi0 : i = 0 := by omega
  subst hi0
  rw [heapBuild] at h1
  subst h1
  refine .seq ((.region (.v (.move rfl) (.v (.subi rfl rfl (by omega)) (.v (.assign rfl) (.nil ?_))))))
  clear hi
  generalize hP : heapPop ltInt a h d1 = D
  refine .block (.loop (X := SL) (fun x => [(0, .slice (some ⟨b, o, none⟩) n c), (6, .int .i64 a), (7, .int .i64 0), (10, .int .i64 ((x.i : Int) - 1))]) (fun x => [(b, .cells x.l 25)]) (fun x => x.i ≤ h ∧ So32 b o c n x.d x.l ∧ heapPop ltInt a x.i x.d = D) (fun x => x.i) ⟨h, d1, l1⟩ ⟨Nat.le_refl _, k1, hP⟩ (.cons rfl (.cons rfl (.cons rfl (.cons rfl (.nil _))))) (fun _ s => s) ?_)
  clear k1 hP
  rintro ⟨i, d1, l1⟩ ⟨hi, k1, h1⟩
  dsimp only at hi k1 h1 ⊢
  refine .seq (.seq ((.region (.v (.move rfl) (.v (.geq rfl rfl) (.nil ?_))))))
  refine .cond_dec rfl (fun g => .skip ?_) (fun g => .exit ?_)
  · obtain ⟨i, rfl⟩ : ∃ i', i = i' + 1 := ⟨i - 1, by omega⟩
    rw [show (((i + 1 : Nat) : Int) - 1) = (i : Int) by omega]
    rw [heapPop] at h1
    have q0 := fun hs' hsub => k1.at_ (w0 := w) (own := [b]) (hs := hs') (i := a) (by omega) hsub
    have q1 := fun hs' hsub => k1.at_ (w0 := w) (own := [b]) (hs := hs') (i := a + i) (by omega) hsub
    have k3 := k1.swp (i := a) (j := a + i) (by omega) (by omega)
    have hlen := k1.len
    generalize hx : d1[a]! = x0 at q0 k3
    generalize hy : d1[a + i]! = x1 at q1 k3
    refine .seq (.block (.seq ((.drawY 17 [0, 1, 2, 3, 4, 5, 6, 7, 8, 9, 10, 11, 12, 13, 14, 15, 16, 17, 18, 19] [(b, .cells l1 25)] (fun _ h => h) (by kernel_rfl) (by kernel_rfl) ?_))))
    refine .x (fun _ _ _ => .move rfl) (.x (fun _ _ _ => .move rfl) (.x (fun _ _ _ => .move rfl) (.x (fun _ _ _ => .move rfl) (.x (fun _ _ _ => .move rfl) (.x (fun _ _ _ => .addE ((a + i : Nat) : Int) rfl rfl (by omega) (by omega)) (.x (fun _ _ _ => .move rfl) (.x (fun _ _ _ => .move rfl) (.x (fun _ _ _ => .move rfl) (.x (fun _ _ _ => .addE ((a + i : Nat) : Int) rfl rfl (by omega) (by omega)) (.x (fun _ _ _ => .indexN (a + i) rfl rfl (by omega)) (.v (fun hs' f => .load (v := .int .u32 x1) rfl (q1 hs' f)) (.x (fun _ _ _ => .move rfl) (.x (fun _ _ _ => .move rfl) (.x (fun _ _ _ => .indexN a rfl rfl (by omega)) (.v (fun hs' f => .load (v := .int .u32 x0) rfl (q0 hs' f)) (.x (fun _ _ _ => .indexN a rfl rfl (by omega)) (.st (.store rfl rfl rfl (by omega)) (.x (fun _ _ _ => .indexN (a + i) rfl rfl (by omega)) (.st2 (.store rfl rfl rfl (by rw [List.length_set]; omega)) (.nil ?_))))))))))))))))))))
    refine .region (.v (.move rfl) (.v (.move rfl) (.v (.move rfl) (.v (.move rfl) ?_))))
    refine .ef (.callT [(b, .cells ((l1.set (o + a) (.int .u32 x1)).set (o + (a + i)) (.int .u32 x0)) 25)] rfl rfl fun w s => sift32_ok w k3 0 i a (by omega) (by omega) hn) ?_
    rintro _ _ ⟨_, ⟨l2, rfl, k2⟩, rfl⟩
    refine .nil ?_
    refine .region (.v (.move rfl) (.v (.subi rfl rfl (by omega)) (.v (.assign rfl) (.nil ?_))))
    exact ⟨⟨i, siftDown ltInt i a 0 (swp d1 a (a + i)), l2⟩, ⟨by show i ≤ _; omega, k2, h1⟩, by show i < i + 1; omega, .cons rfl (.cons rfl (.cons rfl (.cons rfl (.nil _)))), fun _ s => s.take⟩
  · have hi0 : i = 0 := by omega
    subst hi0
    rw [heapPop] at h1
    subst h1
    exact ⟨[], trivial, l1, rfl, k1⟩
set_option maxRecDepth 20000 in
theorem rev32_ok (w : World) {b o c n : Nat} {d : Array Int} {l : List Value} (k : So32 b o c n d l) (a e : Nat) (hae : a < e) (he : e ≤ n) (hn : n < 2305843009213693952) :
    Does Try.prog 91 [.slice (some ⟨b, o, none⟩) n c, .int .i64 a, .int .i64 e] [(b, .cells l 25)] w (fun _ hs => ∃ l', hs = [(b, .cells l' 25)] ∧ So32 b o c n (reverseRange d a e) l') := by
  refine Does.of (n := 32) Try.func91 rfl rfl rfl rfl ?_
  refine .seq ((.region (.v (.move rfl) (.v (.assign rfl) (.nil ?_)))))
  refine .seq ((.region (.v (.move rfl) (.v (.subE ((e - 1 : Nat) : Int) rfl rfl (by omega) (by omega)) (.v (.assign rfl) (.nil ?_))))))
  unfold reverseRange
  generalize hR : reverseLoop a (e - 1) d = D
  refine .block (.loop (X := SL × Nat) (fun x => [(0, .slice (some ⟨b, o, none⟩) n c), (6, .int .i64 x.1.i), (7, .int .i64 x.2)]) (fun x => [(b, .cells x.1.l 25)]) (fun x => (x.1.i ≤ n ∧ x.2 < n) ∧ So32 b o c n x.1.d x.1.l ∧ reverseLoop x.1.i x.2 x.1.d = D) (fun x => x.2 - x.1.i) (⟨a, d, l⟩, e - 1) ⟨⟨by show a ≤ n; omega, by show e - 1 < n; omega⟩, k, hR⟩ (.cons rfl (.cons rfl (.cons rfl (.nil _)))) (fun _ s => s) ?_)
  rintro ⟨⟨i, d1, l1⟩, j⟩ ⟨⟨hi, hj⟩, k1, h1⟩
  dsimp only at hi hj k1 h1 ⊢
  refine .seq (.seq ((.region (.v (.move rfl) (.v (.move rfl) (.v (.lss rfl rfl) (.nil ?_)))))))
  refine .cond_dec rfl (fun g => .skip ?_) (fun g => .exit ?_)
  · have hij : i < j := by omega
    rw [reverseLoop, if_pos hij] at h1
    have q0 := fun hs' hsub => k1.at_ (w0 := w) (own := [b]) (hs := hs') (i := i) (by omega) hsub
    have q1 := fun hs' hsub => k1.at_ (w0 := w) (own := [b]) (hs := hs') (i := j) (by omega) hsub
    have k3 := k1.swp (i := i) (j := j) (by omega) (by omega)
    have hlen := k1.len
    generalize hx : d1[i]! = x0 at q0 k3
    generalize hy : d1[j]! = x1 at q1 k3
    refine .block (.seq ((.drawY 13 [0, 1, 2, 3, 4, 5, 6, 7, 8, 9, 10, 11, 12, 13, 14, 15] [(b, .cells l1 25)] (fun _ h => h) (by kernel_rfl) (by kernel_rfl) ?_)))
    refine .x (fun _ _ _ => .move rfl) (.x (fun _ _ _ => .move rfl) (.x (fun _ _ _ => .move rfl) (.x (fun _ _ _ => .move rfl) (.x (fun _ _ _ => .move rfl) (.x (fun _ _ _ => .move rfl) (.x (fun _ _ _ => .indexN j rfl rfl (by omega)) (.v (fun hs' f => .load (v := .int .u32 x1) rfl (q1 hs' f)) (.x (fun _ _ _ => .move rfl) (.x (fun _ _ _ => .move rfl) (.x (fun _ _ _ => .indexN i rfl rfl (by omega)) (.v (fun hs' f => .load (v := .int .u32 x0) rfl (q0 hs' f)) (.x (fun _ _ _ => .indexN i rfl rfl (by omega)) (.st (.store rfl rfl rfl (by omega)) (.x (fun _ _ _ => .indexN j rfl rfl (by omega)) (.st2 (.store rfl rfl rfl (by rw [List.length_set]; omega)) (.nil ?_))))))))))))))))
    refine .seq ((.region (.v (.move rfl) (.v (.addE ((i + 1 : Nat) : Int) rfl rfl (by omega) (by omega)) (.v (.assign rfl) (.nil ?_))))))
    refine .region (.v (.move rfl) (.v (.subE ((j - 1 : Nat) : Int) rfl rfl (by omega) (by omega)) (.v (.assign rfl) (.nil ?_))))
    exact ⟨(⟨i + 1, swp d1 i j, (l1.set (o + i) (.int .u32 x1)).set (o + j) (.int .u32 x0)⟩, j - 1), ⟨⟨by show i + 1 ≤ n; omega, by show j - 1 < n; omega⟩, k3, h1⟩, by show j - 1 - (i + 1) < j - i; omega, .cons rfl (.cons rfl (.cons rfl (.nil _))), fun _ s => s⟩
  · rw [reverseLoop, if_neg (by omega)] at h1
    exact ⟨[], trivial, l1, rfl, by rw [← h1]; exact k1⟩
end Go.Proofs.Ytcbppikkoelimaa

/- slices.order2Ordered, medianOrdered, medianAdjacentOrdered at uint32. -/
namespace Go.Proofs.Ytcbppikkoelimaa
open Go.V
open Go.Sort (ltInt order2 median medianAdjacent)
set_option linter.unusedVariables false
set_option linter.unusedSimpArgs false

abbrev SwB (bs s : Nat) : Nat × Ch := (bs, .cells [.int .i64 s] 3)
theorem order2_lt (d : Array Int) {x y s n : Nat} (hx : x < n) (hy : y < n) : (order2 ltInt d x y s).1 < n ∧ (order2 ltInt d x y s).2.1 < n ∧ (order2 ltInt d x y s).2.2 ≤ s + 1 := by
  unfold order2; split <;> dsimp only <;> omega
set_option maxRecDepth 20000 in
theorem order32_ok (w : World) {b o c n bs : Nat} {d : Array Int} (hsz : d.size = n) (hR : Rd w [bs] (some ⟨b, o, none⟩) (ints .u32 d.toList)) (x y s : Nat) (hx : x < n) (hy : y < n) (hs : s < 4611686018427387904) (hn : n < 2305843009213693952) :
    Does Try.prog 105 [.slice (some ⟨b, o, none⟩) n c, .int .i64 x, .int .i64 y, .pointer (some ⟨bs, 0, none⟩)] [SwB bs s] w (fun v hs => v = .tuple ⟨[.int .i64 (order2 ltInt d x y s).1, .int .i64 (order2 ltInt d x y s).2.1]⟩ ∧ hs = [SwB bs (order2 ltInt d x y s).2.2]) := by
  refine Does.of (n := 28) Try.func105 rfl rfl rfl rfl ?_
  refine .seq ((.region (.v (.assign rfl) (.v (.assign rfl) (.nil ?_)))))
  have qx := fun hs' => Rd.cell (hs := hs') hR (i := x) (ints_get (q := .u32) (d := d) (by omega))
  have qy := fun hs' => Rd.cell (hs := hs') hR (i := y) (ints_get (q := .u32) (d := d) (by omega))
  unfold order2
  generalize d[x]! = x0 at qx
  generalize d[y]! = x1 at qy
  refine .seq (.seq ((.drawK [] (List.nil_subset _) (by kernel_rfl) (by kernel_rfl) ?_)))
  refine .v (fun _ f => .move rfl) (.v (fun _ f => .move rfl) (.v (fun _ f => .indexN y rfl rfl hy) (.v (fun hs' f => .load (v := .int .u32 x1) rfl (qy hs')) (.v (fun _ f => .move rfl) (.v (fun _ f => .move rfl) (.v (fun _ f => .indexN x rfl rfl hx) (.v (fun hs' f => .load (v := .int .u32 x0) rfl (qx hs')) (.pc rfl rfl (fun w s => less32_ok w _ _) (.nil ?_)))))))))
  refine .cond rfl (fun g => ?_) (fun g => .skip ?_)
  · rw [if_pos g]
    refine .seq ((.region (.v (.move rfl) (.v (.nilCheck rfl) (.v (.load (v := .int .i64 s) rfl (.one rfl)) (.v (.addE ((s + 1 : Nat) : Int) rfl rfl (by omega) (by omega)) (.v (.nilCheck rfl) (.st (.storeL rfl rfl rfl) (.nil ?_)))))))))
    refine .seq ((.region (.v (.move rfl) (.v (.move rfl) (.v (.assign rfl) (.v (.assign rfl) (.nil ?_)))))))
    exact .ret ⟨[_, _], ⟨rfl, rfl, trivial⟩, rfl, rfl⟩
  · rw [if_neg (by rw [g]; simp)]
    refine .seq ((.region (.v (.move rfl) (.v (.move rfl) (.v (.assign rfl) (.v (.assign rfl) (.nil ?_)))))))
    exact .ret ⟨[_, _], ⟨rfl, rfl, trivial⟩, rfl, rfl⟩
theorem median_lt (d : Array Int) {x y z s n : Nat} (hx : x < n) (hy : y < n) (hz : z < n) : (median ltInt d x y z s).1 < n ∧ (median ltInt d x y z s).2 ≤ s + 3 := by
  unfold median
  dsimp only
  obtain ⟨a1, a2, a3⟩ := order2_lt d (s := s) hx hy
  generalize order2 ltInt d x y s = r1 at a1 a2 a3
  obtain ⟨b1, b2, b3⟩ := order2_lt d (s := r1.2.2) a2 hz
  generalize order2 ltInt d r1.2.1 z r1.2.2 = r2 at b1 b2 b3
  obtain ⟨c1, c2, c3⟩ := order2_lt d (s := r2.2.2) a1 b1
  exact ⟨c2, by omega⟩
set_option maxRecDepth 20000 in
theorem median32_ok (w : World) {b o c n bs : Nat} {d : Array Int} (hsz : d.size = n) (hR : Rd w [bs] (some ⟨b, o, none⟩) (ints .u32 d.toList)) (x y z s : Nat) (hx : x < n) (hy : y < n) (hz : z < n) (hs : s < 4611686018427387900) (hn : n < 2305843009213693952) :
    Does Try.prog 103 [.slice (some ⟨b, o, none⟩) n c, .int .i64 x, .int .i64 y, .int .i64 z, .pointer (some ⟨bs, 0, none⟩)] [SwB bs s] w (fun v hs => v = .int .i64 (median ltInt d x y z s).1 ∧ hs = [SwB bs (median ltInt d x y z s).2]) := by
  refine Does.of (n := 36) Try.func103 rfl rfl rfl rfl ?_
  refine .seq ((.region (.v (.assign rfl) (.nil ?_))))
  unfold median
  dsimp only
  obtain ⟨a1, a2, a3⟩ := order2_lt d (s := s) hx hy
  refine .seq ((.region (.v (.move rfl) (.v (.move rfl) (.v (.move rfl) (.v (.move rfl) ?_))))))
  refine .ef (.callT [SwB bs s] rfl rfl fun w' k => order32_ok w' hsz (hR.keep k (by simp [bl])) x y s hx hy (by omega) hn) ?_
  generalize order2 ltInt d x y s = r1 at a1 a2 a3
  rintro _ _ ⟨_, ⟨rfl, rfl⟩, rfl⟩
  refine .v (.move rfl) (.v (.extract rfl rfl) (.v (.extract rfl rfl) (.v (.assign rfl) (.v (.assign rfl) (.nil ?_)))))
  obtain ⟨b1, b2, b3⟩ := order2_lt d (s := r1.2.2) a2 hz
  refine .seq ((.region (.v (.move rfl) (.v (.move rfl) (.v (.move rfl) (.v (.move rfl) ?_))))))
  refine .ef (.callT [SwB bs r1.2.2] rfl rfl fun w' k => order32_ok w' hsz (hR.keep k (by simp [bl])) r1.2.1 z r1.2.2 a2 hz (by omega) hn) ?_
  generalize order2 ltInt d r1.2.1 z r1.2.2 = r2 at b1 b2 b3
  rintro _ _ ⟨_, ⟨rfl, rfl⟩, rfl⟩
  refine .v (.move rfl) (.v (.extract rfl rfl) (.v (.extract rfl rfl) (.v (.assign rfl) (.v (.assign rfl) (.nil ?_)))))
  obtain ⟨c1, c2, c3⟩ := order2_lt d (s := r2.2.2) a1 b1
  refine .seq ((.region (.v (.move rfl) (.v (.move rfl) (.v (.move rfl) (.v (.move rfl) ?_))))))
  refine .ef (.callT [SwB bs r2.2.2] rfl rfl fun w' k => order32_ok w' hsz (hR.keep k (by simp [bl])) r1.1 r2.1 r2.2.2 a1 b1 (by omega) hn) ?_
  generalize order2 ltInt d r1.1 r2.1 r2.2.2 = r3 at c1 c2 c3
  rintro _ _ ⟨_, ⟨rfl, rfl⟩, rfl⟩
  refine .v (.move rfl) (.v (.extract rfl rfl) (.v (.extract rfl rfl) (.v (.assign rfl) (.v (.assign rfl) (.nil ?_)))))
  refine .seq ((.region (.v (.move rfl) (.v (.assign rfl) (.nil ?_)))))
  exact .ret ⟨[_], ⟨rfl, trivial⟩, rfl, rfl⟩
set_option maxRecDepth 20000 in
theorem adjacent32_ok (w : World) {b o c n bs : Nat} {d : Array Int} (hsz : d.size = n) (hR : Rd w [bs] (some ⟨b, o, none⟩) (ints .u32 d.toList)) (x s : Nat) (h0 : 0 < x) (hx : x + 1 < n) (hs : s < 4611686018427387900) (hn : n < 2305843009213693952) :
    Does Try.prog 102 [.slice (some ⟨b, o, none⟩) n c, .int .i64 x, .pointer (some ⟨bs, 0, none⟩)] [SwB bs s] w (fun v hs => v = .int .i64 (medianAdjacent ltInt d x s).1 ∧ hs = [SwB bs (medianAdjacent ltInt d x s).2]) := by
  refine Does.of (n := 15) Try.func102 rfl rfl rfl rfl ?_
  refine .seq ((.region (.v (.assign rfl) (.nil ?_))))
  unfold medianAdjacent
  refine .seq ((.region (.v (.move rfl) (.v (.move rfl) (.v (.subE ((x - 1 : Nat) : Int) rfl rfl (by omega) (by omega)) (.v (.move rfl) (.v (.move rfl) (.v (.addE ((x + 1 : Nat) : Int) rfl rfl (by omega) (by omega)) (.v (.move rfl) ?_)))))))))
  refine .ef (.callT [SwB bs s] rfl rfl fun w' k => median32_ok w' hsz (hR.keep k (by simp [bl])) (x - 1) x (x + 1) s (by omega) (by omega) hx hs hn) ?_
  generalize median ltInt d (x - 1) x (x + 1) s = r
  rintro _ _ ⟨_, ⟨rfl, rfl⟩, rfl⟩
  refine .v (.assign rfl) (.nil ?_)
  exact .ret ⟨[_], ⟨rfl, trivial⟩, rfl, rfl⟩
end Go.Proofs.Ytcbppikkoelimaa

/- slices.choosePivotOrdered at uint32. -/
namespace Go.Proofs.Ytcbppikkoelimaa
open Go.V
open Go.Sort (ltInt order2 median medianAdjacent choosePivot Hint)
set_option linter.unusedVariables false
set_option linter.unusedSimpArgs false

def hintV : Hint → Int
  | .unknown => 0
  | .increasing => 1
  | .decreasing => 2
def cpR (d : Array Int) (a e : Nat) : Nat × Nat :=
  if e - a ≥ 8 then
    if e - a ≥ 50 then
      let ri := medianAdjacent ltInt d (a + (e - a) / 4 * 1) 0
      let rj := medianAdjacent ltInt d (a + (e - a) / 4 * 2) ri.2
      let rk := medianAdjacent ltInt d (a + (e - a) / 4 * 3) rj.2
      median ltInt d ri.1 rj.1 rk.1 rk.2
    else median ltInt d (a + (e - a) / 4 * 1) (a + (e - a) / 4 * 2) (a + (e - a) / 4 * 3) 0
  else (a + (e - a) / 4 * 2, 0)
theorem cp_eq (d : Array Int) (a e : Nat) : choosePivot ltInt d a e = ((cpR d a e).1, if (cpR d a e).2 = 0 then .increasing else if (cpR d a e).2 = 12 then .decreasing else .unknown) := rfl
theorem adj_lt (d : Array Int) {x s n : Nat} (h0 : 0 < x) (hx : x + 1 < n) : (medianAdjacent ltInt d x s).1 < n ∧ (medianAdjacent ltInt d x s).2 ≤ s + 3 := median_lt d (by omega) (by omega) hx
structure C4 where
  x : Nat
  y : Nat
  z : Nat
  s : Nat
set_option maxRecDepth 20000 in
theorem choose32_ok (w : World) {b o c n : Nat} {d : Array Int} (hsz : d.size = n) (hR : Rd w [] (some ⟨b, o, none⟩) (ints .u32 d.toList)) (a e : Nat) (hae : a < e) (he : e ≤ n) (hn : n < 2305843009213693952) :
    Does Try.prog 90 [.slice (some ⟨b, o, none⟩) n c, .int .i64 a, .int .i64 e] [] w (fun v hs => v = .tuple ⟨[.int .i64 (choosePivot ltInt d a e).1, .int .i64 (hintV (choosePivot ltInt d a e).2)]⟩ ∧ hs = []) := by
  refine Does.less (Does.of (n := 57) Try.func90 rfl rfl rfl rfl ?_)
  obtain ⟨h, rfl⟩ := Nat.exists_eq_add_of_le (Nat.le_of_lt hae)
  rw [cp_eq]
  have hr : cpR d a (a + h) = if h ≥ 8 then if h ≥ 50 then median ltInt d (medianAdjacent ltInt d (a + h / 4 * 1) 0).1 (medianAdjacent ltInt d (a + h / 4 * 2) (medianAdjacent ltInt d (a + h / 4 * 1) 0).2).1 (medianAdjacent ltInt d (a + h / 4 * 3) (medianAdjacent ltInt d (a + h / 4 * 2) (medianAdjacent ltInt d (a + h / 4 * 1) 0).2).2).1 (medianAdjacent ltInt d (a + h / 4 * 3) (medianAdjacent ltInt d (a + h / 4 * 2) (medianAdjacent ltInt d (a + h / 4 * 1) 0).2).2).2 else median ltInt d (a + h / 4 * 1) (a + h / 4 * 2) (a + h / 4 * 3) 0 else (a + h / 4 * 2, 0) := by
    unfold cpR; rw [Nat.add_sub_cancel_left]
  generalize cpR d a (a + h) = R at hr ⊢
  generalize hq : h / 4 = q at hr
  have hq4 : (h : Int) / 4 = (q : Int) := by omega
  refine .seq ((.region (.v (.assign rfl) (.v (.assign rfl) (.nil ?_)))))
  refine .seq ((.region (.v (.move rfl) (.v (.move rfl) (.v (.subE (h : Int) rfl rfl (by omega) (by omega)) (.v (.assign rfl) (.nil ?_)))))))
  refine .seq ((.region (.nw .alloc fun b9 => (.nil ?_))))
  refine .seq ((.region (.v (.move rfl) (.v (.move rfl) (.v (.quoN q rfl rfl (by decide) hq4 (by omega) (by omega)) (.v (.muli rfl rfl (by omega)) (.v (.addE ((a + q * 1 : Nat) : Int) rfl rfl (by omega) (by omega)) (.v (.assign rfl) (.nil ?_)))))))))
  refine .seq ((.region (.v (.move rfl) (.v (.move rfl) (.v (.quoN q rfl rfl (by decide) hq4 (by omega) (by omega)) (.v (.muli rfl rfl (by omega)) (.v (.addE ((a + q * 2 : Nat) : Int) rfl rfl (by omega) (by omega)) (.v (.assign rfl) (.nil ?_)))))))))
  refine .seq ((.region (.v (.move rfl) (.v (.move rfl) (.v (.quoN q rfl rfl (by decide) hq4 (by omega) (by omega)) (.v (.muli rfl rfl (by omega)) (.v (.addE ((a + q * 3 : Nat) : Int) rfl rfl (by omega) (by omega)) (.v (.assign rfl) (.nil ?_)))))))))
  refine .keep [SwB b9 0] ?_
  refine .mid (X := Nat × Nat) (fun x => [(9, .pointer (some ⟨b9, 0, none⟩)), (11, .int .i64 x.1)]) (fun x => [SwB b9 x.2]) (fun x => x = R ∧ x.2 ≤ 12) (.seq ((.region (.v (.move rfl) (.v (.geq rfl rfl) (.nil ?_)))))) ?_
  · refine .cond_dec rfl (fun h1 => ?_) (fun h1 => .skip ?_)
    · have h8 : h ≥ 8 := by omega
      rw [if_pos h8] at hr
      refine .mid (X := C4) (fun x => [(0, .slice (some ⟨b, o, none⟩) n c), (9, .pointer (some ⟨b9, 0, none⟩)), (10, .int .i64 x.x), (11, .int .i64 x.y), (12, .int .i64 x.z)]) (fun x => [SwB b9 x.s]) (fun x => R = median ltInt d x.x x.y x.z x.s ∧ (x.x < n ∧ x.y < n ∧ x.z < n ∧ x.s ≤ 9)) (.seq ((.region (.v (.move rfl) (.v (.geq rfl rfl) (.nil ?_)))))) ?_
      · refine .cond_dec rfl (fun h2 => ?_) (fun h2 => .skip ?_)
        · have h50 : h ≥ 50 := by omega
          rw [if_pos h50] at hr
          obtain ⟨u1, u2⟩ := adj_lt d (x := a + q * 1) (s := 0) (n := n) (by omega) (by omega)
          refine .seq ((.region (.v (.move rfl) (.v (.move rfl) ?_))))
          refine .ef (.callT [SwB b9 0] rfl rfl fun w' k => adjacent32_ok w' hsz (hR.keep k (fun y hy => k.mine y (by simp at hy; subst hy; simp [bl]))) (a + q * 1) 0 (by omega) (by omega) (by omega) hn) ?_
          generalize medianAdjacent ltInt d (a + q * 1) 0 = r1 at u1 u2 hr
          rintro _ _ ⟨_, ⟨rfl, rfl⟩, rfl⟩
          refine .v (.assign rfl) (.nil ?_)
          obtain ⟨v1, v2⟩ := adj_lt d (x := a + q * 2) (s := r1.2) (n := n) (by omega) (by omega)
          refine .seq ((.region (.v (.move rfl) (.v (.move rfl) ?_))))
          refine .ef (.callT [SwB b9 r1.2] rfl rfl fun w' k => adjacent32_ok w' hsz (hR.keep k (fun y hy => k.mine y (by simp at hy; subst hy; simp [bl]))) (a + q * 2) r1.2 (by omega) (by omega) (by omega) hn) ?_
          generalize medianAdjacent ltInt d (a + q * 2) r1.2 = r2 at v1 v2 hr
          rintro _ _ ⟨_, ⟨rfl, rfl⟩, rfl⟩
          refine .v (.assign rfl) (.nil ?_)
          obtain ⟨x1, x2⟩ := adj_lt d (x := a + q * 3) (s := r2.2) (n := n) (by omega) (by omega)
          refine .region (.v (.move rfl) (.v (.move rfl) ?_))
          refine .ef (.callT [SwB b9 r2.2] rfl rfl fun w' k => adjacent32_ok w' hsz (hR.keep k (fun y hy => k.mine y (by simp at hy; subst hy; simp [bl]))) (a + q * 3) r2.2 (by omega) (by omega) (by omega) hn) ?_
          generalize medianAdjacent ltInt d (a + q * 3) r2.2 = r3 at x1 x2 hr
          rintro _ _ ⟨_, ⟨rfl, rfl⟩, rfl⟩
          refine .v (.assign rfl) (.nil ?_)
          exact ⟨⟨r1.1, r2.1, r3.1, r3.2⟩, ⟨hr, u1, v1, x1, by show r3.2 ≤ 9; omega⟩, .cons rfl (.cons rfl (.cons rfl (.cons rfl (.cons rfl (.nil _))))), fun _ s => s.take⟩
        · rw [if_neg (by omega)] at hr
          exact ⟨⟨a + q * 1, a + q * 2, a + q * 3, 0⟩, ⟨hr, by show a + q * 1 < n; omega, by show a + q * 2 < n; omega, by show a + q * 3 < n; omega, by show 0 ≤ 9; omega⟩, .cons rfl (.cons rfl (.cons rfl (.cons rfl (.cons rfl (.nil _))))), fun _ s => s.take⟩
      · rintro ⟨x, y, z, s⟩ ⟨hm, hx, hy, hz, hs⟩
        dsimp only at hm hx hy hz hs ⊢
        obtain ⟨m1, m2⟩ := median_lt d (s := s) hx hy hz
        refine .region (.v (.move rfl) (.v (.move rfl) (.v (.move rfl) (.v (.move rfl) ?_))))
        refine .ef (.callT [SwB b9 s] rfl rfl fun w' k => median32_ok w' hsz (hR.keep k (fun y hy => k.mine y (by simp at hy; subst hy; simp [bl]))) x y z s hx hy hz (by omega) hn) ?_
        generalize median ltInt d x y z s = r at m1 m2 hm
        rintro _ _ ⟨_, ⟨rfl, rfl⟩, rfl⟩
        refine .v (.assign rfl) (.nil ?_)
        exact ⟨r, ⟨hm.symm, by omega⟩, .cons rfl (.cons rfl (.nil _)), fun _ s => s.take⟩
    · rw [if_neg (by omega)] at hr
      exact ⟨(a + q * 2, 0), ⟨hr.symm, Nat.zero_le _⟩, .cons rfl (.cons rfl (.nil _)), fun _ s => s.take⟩
  · rintro ⟨j, s⟩ ⟨hx, hs⟩
    subst hx
    dsimp only at hs ⊢
    refine .seq ((.region (.v (.load (v := .int .i64 s) rfl (.one rfl)) (.nil ?_))))
    refine .block (.seq ((.region (.v (.eqi rfl rfl) (.v (.assign rfl) (.nil ?_))))))
    refine .cond_dec rfl (fun h3 => ?_) (fun h3 => ?_)
    · rw [if_pos (by omega)]
      refine .seq ((.region (.v (.move rfl) (.v (.assign rfl) (.v (.assign rfl) (.nil ?_))))))
      exact .ret ⟨[_, _], ⟨rfl, rfl, trivial⟩, [], fun _ s => s.sub (List.nil_sublist _), rfl, rfl⟩
    · rw [if_neg (by omega)]
      refine .seq ((.region (.v (.eqi rfl rfl) (.v (.assign rfl) (.nil ?_)))))
      refine .cond_dec rfl (fun h4 => ?_) (fun h4 => ?_)
      · rw [if_pos (by omega)]
        refine .seq ((.region (.v (.move rfl) (.v (.assign rfl) (.v (.assign rfl) (.nil ?_))))))
        exact .ret ⟨[_, _], ⟨rfl, rfl, trivial⟩, [], fun _ s => s.sub (List.nil_sublist _), rfl, rfl⟩
      · rw [if_neg (by omega)]
        refine .seq ((.region (.v (.move rfl) (.v (.assign rfl) (.v (.assign rfl) (.nil ?_))))))
        exact .ret ⟨[_, _], ⟨rfl, rfl, trivial⟩, [], fun _ s => s.sub (List.nil_sublist _), rfl, rfl⟩
end Go.Proofs.Ytcbppikkoelimaa

/- slices.xorshift.Next, loosely: some number comes. -/
namespace Go.Proofs.Ytcbppikkoelimaa
open Go.V
set_option linter.unusedVariables false
set_option linter.unusedSimpArgs false

theorem wrap_u64_rng (x : Int) : 0 ≤ IntKind.u64.wrap x ∧ IntKind.u64.wrap x ≤ 18446744073709551615 := by
  simp only [IntKind.wrap, IntKind.bits, IntKind.signed]
  constructor <;> simp <;> omega
theorem bop_rng (x y : Int) : 0 ≤ bop BinOp.xor IntKind.u64 x y ∧ bop BinOp.xor IntKind.u64 x y ≤ 18446744073709551615 := by
  unfold bop
  first | exact wrap_u64_rng _ | (simp; exact wrap_u64_rng _)
theorem next_ok (w : World) (bs : Nat) (x : Int) :
    Does Try.prog 101 [.pointer (some ⟨bs, 0, none⟩)] [(bs, .cells [.int .u64 x] 177)] w (fun v hs => ∃ y, (0 ≤ y ∧ y ≤ 18446744073709551615) ∧ v = .int .u64 y ∧ hs = [(bs, .cells [.int .u64 y] 177)]) := by
  refine Does.of (n := 33) Try.func101 rfl rfl rfl rfl ?_
  refine .seq ((.region (.v (.assign rfl) (.nil ?_))))
  refine .seq ((.drawQ 9 [0, 1, 2, 3, 4, 5, 6, 7, 8, 9] _ (fun _ h => h) (by kernel_rfl) (by kernel_rfl) ?_))
  refine .v (fun _ f => .move rfl) (.v (fun _ f => .nilCheck rfl) (.v (fun _ f => .load (v := .int .u64 x) rfl (.one (hb := .sub f) rfl)) (.v (fun _ f => .move rfl) (.v (fun _ f => .nilCheck rfl) (.v (fun _ f => .load (v := .int .u64 x) rfl (.one (hb := .sub f) rfl)) (.v (fun _ f => .shl rfl rfl (by omega)) (.v (fun _ f => .xor rfl rfl) (.v (fun _ f => .nilCheck rfl) (.st (.storeL rfl rfl rfl) (.nil ?_))))))))))
  generalize bop BinOp.xor IntKind.u64 _ _ = x1
  refine .seq ((.drawQ 9 [0, 1, 2, 3, 4, 5, 6, 7, 8, 9] _ (fun _ h => h) (by kernel_rfl) (by kernel_rfl) ?_))
  refine .v (fun _ f => .move rfl) (.v (fun _ f => .nilCheck rfl) (.v (fun _ f => .load (v := .int .u64 x1) rfl (.one (hb := .sub f) rfl)) (.v (fun _ f => .move rfl) (.v (fun _ f => .nilCheck rfl) (.v (fun _ f => .load (v := .int .u64 x1) rfl (.one (hb := .sub f) rfl)) (.v (fun _ f => .shr rfl rfl (by omega)) (.v (fun _ f => .xor rfl rfl) (.v (fun _ f => .nilCheck rfl) (.st (.storeL rfl rfl rfl) (.nil ?_))))))))))
  generalize bop BinOp.xor IntKind.u64 _ _ = x2
  refine .seq ((.drawQ 9 [0, 1, 2, 3, 4, 5, 6, 7, 8, 9] _ (fun _ h => h) (by kernel_rfl) (by kernel_rfl) ?_))
  refine .v (fun _ f => .move rfl) (.v (fun _ f => .nilCheck rfl) (.v (fun _ f => .load (v := .int .u64 x2) rfl (.one (hb := .sub f) rfl)) (.v (fun _ f => .move rfl) (.v (fun _ f => .nilCheck rfl) (.v (fun _ f => .load (v := .int .u64 x2) rfl (.one (hb := .sub f) rfl)) (.v (fun _ f => .shl rfl rfl (by omega)) (.v (fun _ f => .xor rfl rfl) (.v (fun _ f => .nilCheck rfl) (.st (.storeL rfl rfl rfl) (.nil ?_))))))))))
  have hr := bop_rng x2 (IntKind.u64.wrap (x2 * 2 ^ min (17 : Int).toNat IntKind.u64.bits))
  generalize bop BinOp.xor IntKind.u64 _ _ = x3 at hr ⊢
  refine .seq ((.region (.v (.move rfl) (.v (.nilCheck rfl) (.v (.load (v := .int .u64 x3) rfl (.one rfl)) (.v (.assign rfl) (.nil ?_)))))))
  exact .ret ⟨[_], ⟨rfl, trivial⟩, x3, hr, rfl, rfl⟩
end Go.Proofs.Ytcbppikkoelimaa

/- math/bits.Len64, Len, slices.nextPowerOfTwo, loosely: 2 ^ Len(x) <= 2 x. -/
namespace Go
namespace V
open Go.RowKit
set_option linter.unusedVariables false
set_option linter.unusedSimpArgs false
section
variable {P : Program} {n : Nat} {w0 : World} {own : List Nat} {e : Env} {hs : Hp}
theorem Val.indexS {T : Nat} {x y : Operand} {i : Int} {q : IntKind} {s : ByteArray} {b : UInt8} (hx : ev e x = some (.string s)) (hy : ev e y = some (.int q i)) [hT : StrT P T]
    (h0 : 0 ≤ i) (hv : s[i.toNat]? = some b) : Val P n w0 own e hs (.index T x y) (.int .u8 b.toNat) := fun a w ty pos aft g d hr s => by
  simp [execOp, hr.eval hx, hr.eval hy, Instr.index, asIntOf, run_underlying hT.out, h0, hv]
theorem Val.shrE {T U : Nat} {x y : Operand} {q r : IntKind} {i j : Int} (z : Int) (hx : ev e x = some (.int q i)) (hy : ev e y = some (.int r j)) (h0 : 0 ≤ j) (hz : i.fdiv (2 ^ min j.toNat q.bits) = z) :
    Val P n w0 own e hs (.binOp .shr T x y U) (.int q z) := hz ▸ Val.shr hx hy h0
theorem Val.shlE {T U : Nat} {x y : Operand} {q r : IntKind} {i j : Int} (z : Int) (hx : ev e x = some (.int q i)) (hy : ev e y = some (.int r j)) (h0 : 0 ≤ j) (hz : q.wrap (i * 2 ^ min j.toNat q.bits) = z) :
    Val P n w0 own e hs (.binOp .shl T x y U) (.int q z) := hz ▸ Val.shl hx hy h0
end
theorem fdiv_nat (x k : Nat) : (x : Int).fdiv (k : Int) = ((x / k : Nat) : Int) := by
  rw [Int.fdiv_eq_ediv_of_nonneg _ (by omega)]; rfl
theorem and_rng {y z : Int} (h0 : 0 ≤ z) (h1 : z ≤ 18446744073709551615) : 0 ≤ bop .and .u64 y z ∧ bop .and .u64 y z ≤ z := by
  have e1 : bop .and .u64 y z = IntKind.u64.wrap ((BitVec.ofInt 64 y &&& BitVec.ofInt 64 z).toNat : Int) := rfl
  have h2 : (BitVec.ofInt 64 y &&& BitVec.ofInt 64 z).toNat ≤ (BitVec.ofInt 64 z).toNat := by rw [BitVec.toNat_and]; exact Nat.and_le_right
  have h3 : ((BitVec.ofInt 64 z).toNat : Int) = z := by rw [BitVec.toNat_ofInt]; omega
  rw [e1, wrap_u64_in (by omega)]
  omega
end V
end Go
namespace Go.Proofs.Ytcbppikkoelimaa
open Go.V
set_option linter.unusedVariables false
set_option linter.unusedSimpArgs false
instance : StrT Try.prog 9 := ⟨by kernel_rfl⟩
def t8 : ByteArray := { data := ((([0, 1, 2, 2, 3, 3, 3, 3, 4, 4, 4, 4, 4, 4, 4, 4, 5, 5, 5, 5, 5, 5, 5, 5, 5, 5, 5, 5, 5, 5, 5, 5, 6, 6, 6, 6, 6, 6, 6, 6, 6, 6, 6, 6, 6, 6, 6, 6, 6, 6, 6, 6, 6, 6, 6, 6, 6, 6, 6, 6, 6, 6, 6, 6] : List UInt8).append [7, 7, 7, 7, 7, 7, 7, 7, 7, 7, 7, 7, 7, 7, 7, 7, 7, 7, 7, 7, 7, 7, 7, 7, 7, 7, 7, 7, 7, 7, 7, 7, 7, 7, 7, 7, 7, 7, 7, 7, 7, 7, 7, 7, 7, 7, 7, 7, 7, 7, 7, 7, 7, 7, 7, 7, 7, 7, 7, 7, 7, 7, 7, 7]).append ([8, 8, 8, 8, 8, 8, 8, 8, 8, 8, 8, 8, 8, 8, 8, 8, 8, 8, 8, 8, 8, 8, 8, 8, 8, 8, 8, 8, 8, 8, 8, 8, 8, 8, 8, 8, 8, 8, 8, 8, 8, 8, 8, 8, 8, 8, 8, 8, 8, 8, 8, 8, 8, 8, 8, 8, 8, 8, 8, 8, 8, 8, 8, 8].append [8, 8, 8, 8, 8, 8, 8, 8, 8, 8, 8, 8, 8, 8, 8, 8, 8, 8, 8, 8, 8, 8, 8, 8, 8, 8, 8, 8, 8, 8, 8, 8, 8, 8, 8, 8, 8, 8, 8, 8, 8, 8, 8, 8, 8, 8, 8, 8, 8, 8, 8, 8, 8, 8, 8, 8, 8, 8, 8, 8, 8, 8, 8, 8])).toArray }
theorem t8_all : (List.range 256).all (fun i => match t8[i]? with | some b => decide ((b.toNat ≤ 8) ∧ ((i = 0 ∧ b.toNat = 0) ∨ 2 ^ b.toNat ≤ 2 * i)) | none => false) = true := by decide +kernel
theorem t8_get {i : Nat} (h : i < 256) : ∃ b : UInt8, t8[i]? = some b ∧ b.toNat ≤ 8 ∧ ((i = 0 ∧ b.toNat = 0) ∨ 2 ^ b.toNat ≤ 2 * i) := by
  have h1 := List.all_eq_true.1 t8_all i (List.mem_range.2 h)
  cases hb : t8[i]? with
  | none => rw [hb] at h1; cases h1
  | some b => rw [hb] at h1; exact ⟨b, rfl, (of_decide_eq_true h1).1, (of_decide_eq_true h1).2⟩
/-- (what is left, what was counted) -/
abbrev LenI (x B K : Nat) (y : Nat × Nat) : Prop := y.1 < B ∧ y.2 ≤ K ∧ 2 ^ y.2 * y.1 ≤ x ∧ (0 < x → 0 < y.1) ∧ (x = 0 → y.2 = 0)
theorem LenI.next {x K B' k : Nat} {y : Nat × Nat} (h : LenI x (2 ^ k * B') K y) (hg : 2 ^ k ≤ y.1) : LenI x B' (K + k) (y.1 / 2 ^ k, y.2 + k) := by
  obtain ⟨h1, h2, h3, h4, h5⟩ := h
  have hp : 0 < 2 ^ k := Nat.pos_of_ne_zero (by simp)
  have hy : 0 < y.1 := by omega
  have hx : 0 < x := by
    have : 0 < 2 ^ y.2 * y.1 := Nat.mul_pos (Nat.pos_of_ne_zero (by simp)) hy
    omega
  refine ⟨(Nat.div_lt_iff_lt_mul hp).2 (by rw [Nat.mul_comm]; exact h1), Nat.add_le_add_right h2 k, ?_, fun _ => Nat.div_pos hg hp, fun h => by omega⟩
  show 2 ^ (y.2 + k) * (y.1 / 2 ^ k) ≤ x
  rw [Nat.pow_add, Nat.mul_assoc]
  exact Nat.le_trans (Nat.mul_le_mul_left _ (Nat.mul_div_le _ _)) h3
theorem LenI.stay {x B K B' K' : Nat} {y : Nat × Nat} (h : LenI x B K y) (hg : y.1 < B') (hk : K ≤ K') : LenI x B' K' y := ⟨hg, Nat.le_trans h.2.1 hk, h.2.2⟩
set_option maxRecDepth 20000 in
theorem len64_ok (w : World) (x : Nat) (hx : x < 18446744073709551616) : Does Try.prog 97 [.int .u64 x] [] w (fun v hs => ∃ k : Nat, k ≤ 64 ∧ (0 < x → 2 ^ k ≤ 2 * x) ∧ v = .int .i64 k ∧ hs = []) := by
  refine Does.of (n := 25) Try.func97 rfl rfl rfl rfl ?_
  refine .seq ((.region (.v (.assign rfl) (.nil ?_))))
  have i0 : LenI x 18446744073709551616 0 (x, 0) := ⟨hx, Nat.le_refl _, by show 2 ^ 0 * x ≤ x; omega, fun h => h, fun _ => rfl⟩
  refine .mid (X := Nat × Nat) (fun y => [(0, .int .u64 y.1), (2, .int .i64 y.2)]) (fun _ => []) (LenI x 4294967296 32) (.seq ((.region (.v (.move rfl) (.v (.geq rfl rfl) (.nil ?_)))))) ?_
  · refine .cond_dec rfl (fun h1 => ?_) (fun h1 => .skip ?_)
    · refine .seq ((.region (.v (.move rfl) (.v (.shrE ((x / 4294967296 : Nat) : Int) rfl rfl (by omega) (fdiv_nat x 4294967296)) (.v (.assign rfl) (.nil ?_))))))
      refine .region (.v (.assign rfl) (.nil ?_))
      exact ⟨(x / 4294967296, 32), LenI.next (x := x) (K := 0) (k := 32) (B' := 4294967296) (y := (x, 0)) i0 (show 2 ^ 32 ≤ x by omega), .cons rfl (.cons rfl (.nil _)), fun _ s => s⟩
    · exact ⟨(x, 0), i0.stay (show x < _ by omega) (by omega), .cons rfl (.cons rfl (.nil _)), fun _ s => s⟩
  rintro ⟨x1, k1⟩ i1
  dsimp only at ⊢
  have b1 := i1.2.1
  dsimp only at b1
  refine .mid (X := Nat × Nat) (fun y => [(0, .int .u64 y.1), (2, .int .i64 y.2)]) (fun _ => []) (LenI x 65536 48) (.seq ((.region (.v (.move rfl) (.v (.geq rfl rfl) (.nil ?_)))))) ?_
  · refine .cond_dec rfl (fun h1 => ?_) (fun h1 => .skip ?_)
    · refine .seq ((.region (.v (.move rfl) (.v (.shrE ((x1 / 65536 : Nat) : Int) rfl rfl (by omega) (fdiv_nat x1 65536)) (.v (.assign rfl) (.nil ?_))))))
      refine .region (.v (.move rfl) (.v (.addE ((k1 + 16 : Nat) : Int) rfl rfl (by omega) (by omega)) (.v (.assign rfl) (.nil ?_))))
      exact ⟨(x1 / 65536, k1 + 16), LenI.next (x := x) (K := 32) (k := 16) (B' := 65536) (y := (x1, k1)) i1 (show 2 ^ 16 ≤ x1 by omega), .cons rfl (.cons rfl (.nil _)), fun _ s => s⟩
    · exact ⟨(x1, k1), i1.stay (show x1 < _ by omega) (by omega), .cons rfl (.cons rfl (.nil _)), fun _ s => s⟩
  clear b1 i1 i0 hx
  rintro ⟨x2, k2⟩ i2
  dsimp only at ⊢
  have b2 := i2.2.1
  dsimp only at b2
  refine .mid (X := Nat × Nat) (fun y => [(0, .int .u64 y.1), (2, .int .i64 y.2)]) (fun _ => []) (LenI x 256 56) (.seq ((.region (.v (.move rfl) (.v (.geq rfl rfl) (.nil ?_)))))) ?_
  · refine .cond_dec rfl (fun h1 => ?_) (fun h1 => .skip ?_)
    · refine .seq ((.region (.v (.move rfl) (.v (.shrE ((x2 / 256 : Nat) : Int) rfl rfl (by omega) (fdiv_nat x2 256)) (.v (.assign rfl) (.nil ?_))))))
      refine .region (.v (.move rfl) (.v (.addE ((k2 + 8 : Nat) : Int) rfl rfl (by omega) (by omega)) (.v (.assign rfl) (.nil ?_))))
      exact ⟨(x2 / 256, k2 + 8), LenI.next (x := x) (K := 48) (k := 8) (B' := 256) (y := (x2, k2)) i2 (show 2 ^ 8 ≤ x2 by omega), .cons rfl (.cons rfl (.nil _)), fun _ s => s⟩
    · exact ⟨(x2, k2), i2.stay (show x2 < _ by omega) (by omega), .cons rfl (.cons rfl (.nil _)), fun _ s => s⟩
  clear b2 i2
  rintro ⟨x3, k3⟩ ⟨i1, i2, i3, i4, i5⟩
  dsimp only at i1 i2 i3 i4 i5 ⊢
  obtain ⟨c, hc, hc8, hc2⟩ := t8_get i1
  refine .seq ((.region (.v (.move rfl) (.v (.move rfl) (.v (.convE (x3 : Int) rfl (by simp [IntKind.wrap, IntKind.bits, IntKind.signed]; omega)) (.v (.indexS rfl rfl (by omega) hc) (.v (.convE (c.toNat : Int) rfl (wrap_i64 (by omega))) (.v (.addE ((k3 + c.toNat : Nat) : Int) rfl rfl (by omega) (by omega)) (.v (.assign rfl) (.nil ?_))))))))))
  refine .ret ?_
  refine ⟨[_], ⟨rfl, trivial⟩, k3 + c.toNat, by omega, fun h => ?_, rfl, rfl⟩
  have h3 := i4 h
  rcases hc2 with ⟨h, _⟩ | hc2
  · omega
  · rw [Nat.pow_add]
    have := Nat.mul_le_mul_left (2 ^ k3) hc2
    rw [show 2 ^ k3 * (2 * x3) = 2 * (2 ^ k3 * x3) by rw [Nat.mul_left_comm]] at this
    omega
set_option maxRecDepth 20000 in
theorem len_ok (w : World) (x : Nat) (hx : x < 18446744073709551616) : Does Try.prog 85 [.int .u64 x] [] w (fun v hs => ∃ k : Nat, k ≤ 64 ∧ (0 < x → 2 ^ k ≤ 2 * x) ∧ v = .int .i64 k ∧ hs = []) := by
  refine Does.of (n := 8) Try.func85 rfl rfl rfl rfl ?_
  refine .seq ((.region (.v (.assign rfl) (.nil ?_))))
  refine .seq (.cond_false rfl (.skip ?_))
  refine .seq ((.region (.v (.move rfl) ?_)))
  refine .ef (.call0 rfl rfl fun w s => len64_ok w x hx) ?_
  rintro _ _ ⟨_, ⟨k, h1, h2, rfl, rfl⟩, rfl⟩
  refine .v (.assign rfl) (.nil ?_)
  exact .ret ⟨[_], ⟨rfl, trivial⟩, k, h1, h2, rfl, rfl⟩
set_option maxRecDepth 20000 in
theorem nextPow_ok (w : World) (x : Nat) (h0 : 0 < x) (hx : x < 2305843009213693952) : Does Try.prog 100 [.int .i64 x] [] w (fun v hs => ∃ m : Nat, 0 < m ∧ m ≤ 2 * x ∧ v = .int .u64 m ∧ hs = []) := by
  refine Does.of (n := 7) Try.func100 rfl rfl rfl rfl ?_
  refine .seq ((.region (.v (.assign rfl) (.nil ?_))))
  refine .seq ((.region (.v (.move rfl) (.v (.convE (x : Int) rfl (wrap_u64_in (by omega))) ?_))))
  refine .ef (.call0 rfl rfl fun w s => len_ok w x (by omega)) ?_
  rintro _ _ ⟨_, ⟨k, h1, h2, rfl, rfl⟩, rfl⟩
  have h3 := h2 h0
  have hp : 0 < 2 ^ k := Nat.pos_of_ne_zero (by simp)
  refine .v (.shlE ((2 ^ k : Nat) : Int) rfl rfl (by omega) ?_) (.v (.assign rfl) (.nil ?_))
  · rw [show min ((k : Int).toNat) IntKind.u64.bits = k by rw [Int.toNat_natCast]; exact Nat.min_eq_left h1, Int.one_mul]
    rw [show ((2 : Int) ^ k) = ((2 ^ k : Nat) : Int) by simp]
    exact wrap_u64_in (by omega)
  exact .ret ⟨[_], ⟨rfl, trivial⟩, 2 ^ k, hp, h3, rfl, rfl⟩
end Go.Proofs.Ytcbppikkoelimaa

/- slices.partitionOrdered, partitionEqualOrdered at uint32 (printed by wip/gen/gen_part.py). -/
namespace Go.Proofs.Ytcbppikkoelimaa
open Go.V
open Go.Sort (ltInt swp scanUp scanDown partLoop partEqLoop partition partitionEqual)
set_option linter.unusedVariables false
set_option linter.unusedSimpArgs false
section
variable {p : Int → Bool} {d : Array Int} {i j : Nat}
theorem su_go (h : i ≤ j) (hp : p d[i]! = true) : scanUp p d j i = scanUp p d j (i + 1) := by rw [scanUp, if_pos]; simp [h, hp]
theorem su_end (h : j < i) : scanUp p d j i = i := by rw [scanUp, if_neg]; simp; omega
theorem su_stop (hp : p d[i]! = false) : scanUp p d j i = i := by rw [scanUp, if_neg]; simp [hp]
theorem sd_go (h : i ≤ j + 1) (hp : p d[j + 1]! = true) : scanDown p d i (j + 1) = scanDown p d i j := by rw [scanDown, if_pos]; simp [h, hp]
theorem sd_end (h : j < i) : scanDown p d i j = j := by
  cases j with
  | zero => rw [scanDown]
  | succ j => rw [scanDown, if_neg]; simp; omega
theorem sd_stop (hp : p d[j]! = false) : scanDown p d i j = j := by
  cases j with
  | zero => rw [scanDown]
  | succ j => rw [scanDown, if_neg]; simp [hp]
end
structure PS where
  i : Nat
  j : Nat
  d : Array Int
  l : List Value
set_option maxRecDepth 20000 in
theorem partition32_ok (w : World) {b o c n : Nat} {d : Array Int} {l : List Value} (k : So32 b o c n d l) (a e p : Nat) (hap : a ≤ p) (hpe : p < e) (he : e ≤ n) (hn : n < 2305843009213693952) :
    Does Try.prog 95 [.slice (some ⟨b, o, none⟩) n c, .int .i64 a, .int .i64 e, .int .i64 p] [(b, .cells l 25)] w (fun v hs => ∃ l' f, v = .tuple ⟨[.int .i64 (partition ltInt d a e p).1, .bool f]⟩ ∧ hs = [(b, .cells l' 25)] ∧ So32 b o c n (partition ltInt d a e p).2.2 l') := by
  rw [Go.Sort.partition_fst, Go.Sort.partition_arr]
  generalize hPL : partLoop ltInt a (a + 1) (e - 1) (swp d a p) = PL
  refine Does.of (n := 168) Try.func95 rfl rfl rfl rfl ?_
  refine .seq ((.region (.v (.assign rfl) (.v (.assign rfl) (.nil ?_)))))
  refine .mid (X := Array Int × List Value) (fun _ => [(0, .slice (some ⟨b, o, none⟩) n c), (1, .int .i64 a), (2, .int .i64 e)]) (fun x => [(b, .cells x.2 25)]) (fun x => x.1 = swp d a p ∧ So32 b o c n x.1 x.2) ?_ ?_
  · have ks := k.swp (i := a) (j := p) (by omega) (by omega)
    have q0 := fun hs' hsub => k.at_ (w0 := w) (own := [b]) (hs := hs') (i := a) (by omega) hsub
    have q1 := fun hs' hsub => k.at_ (w0 := w) (own := [b]) (hs := hs') (i := p) (by omega) hsub
    have hlen := k.len
    have ex : ∃ d' : Array Int, d' = swp d a p := ⟨_, rfl⟩
    generalize d[a]! = x0 at q0 ks
    generalize d[p]! = x1 at q1 ks
    refine .drawY 13 [0, 1, 2, 3, 4, 5, 6, 7, 8, 9, 10, 11, 12, 13, 14, 15] [(b, .cells l 25)] (fun _ h => h) (by kernel_rfl) (by kernel_rfl) ?_
    refine .x (fun _ _ _ => .move rfl) (.x (fun _ _ _ => .move rfl) (.x (fun _ _ _ => .move rfl) (.x (fun _ _ _ => .move rfl) (.x (fun _ _ _ => .move rfl) (.x (fun _ _ _ => .move rfl) (.x (fun _ _ _ => .indexN (p) rfl rfl (by omega)) (.v (fun hs' f => .load (v := .int .u32 x1) rfl (q1 hs' f)) (.x (fun _ _ _ => .move rfl) (.x (fun _ _ _ => .move rfl) (.x (fun _ _ _ => .indexN (a) rfl rfl (by omega)) (.v (fun hs' f => .load (v := .int .u32 x0) rfl (q0 hs' f)) (.x (fun _ _ _ => .indexN (a) rfl rfl (by omega)) (.st (.store rfl rfl rfl (by omega)) (.x (fun _ _ _ => .indexN (p) rfl rfl (by omega)) (.st2 (.store rfl rfl rfl (by rw [List.length_set]; omega)) (.nil ?_))))))))))))))))
    exact ⟨(swp d (a) (p), (l.set (o + (a)) (.int .u32 x1)).set (o + (p)) (.int .u32 x0)), ⟨rfl, ks⟩, .cons rfl (.cons rfl (.cons rfl (.nil _))), fun _ s => s⟩
  rintro ⟨d1, l1⟩ ⟨hd1, kd1⟩
  try dsimp only at hd1 kd1 ⊢
  have zd1 := kd1.sz
  rw [← hd1] at hPL
  clear hd1 k
  refine .seq ((.region (.v (.move rfl) (.v (.addE ((a + 1 : Nat) : Int) rfl rfl (by omega) (by omega)) (.v (.move rfl) (.v (.subE ((e - 1 : Nat) : Int) rfl rfl (by omega) (by omega)) (.v (.assign rfl) (.v (.assign rfl) (.nil ?_)))))))))
  refine .mid (X := Nat) (fun x => [(0, .slice (some ⟨b, o, none⟩) n c), (1, .int .i64 a), (10, .int .i64 ((x : Nat) : Int)), (11, .int .i64 (((e - 1) : Nat) : Int))]) (fun _ => [(b, .cells l1 25)]) (fun x => x = scanUp (fun x => ltInt x d1[a]!) d1 ((e - 1)) (a + 1)) (.block (.loop (X := Nat) (fun x => [(0, .slice (some ⟨b, o, none⟩) n c), (1, .int .i64 a), (10, .int .i64 ((x : Nat) : Int)), (11, .int .i64 (((e - 1) : Nat) : Int))]) (fun _ => [(b, .cells l1 25)]) (fun x => (a + 1 ≤ x ∧ x ≤ (e - 1) + 1) ∧ scanUp (fun x => ltInt x d1[a]!) d1 ((e - 1)) x = scanUp (fun x => ltInt x d1[a]!) d1 ((e - 1)) (a + 1)) (fun x => (e - 1) + 1 - x) (a + 1) ⟨⟨by omega, by omega⟩, rfl⟩ (.cons rfl (.cons rfl (.cons rfl (.cons rfl (.nil _))))) (fun _ s => s) ?_)) ?_
  · rintro y ⟨⟨hy1, hy2⟩, h1⟩
    try dsimp only at hy1 hy2 h1 ⊢
    by_cases hg : y ≤ (e - 1)
    case neg =>
      refine .seq (.seq (.drawK [(b, .cells l1 25)] (fun _ h => h) (by kernel_rfl) (by kernel_rfl) ?_))
      refine .v (fun _ f => .move rfl) (.v (fun _ f => .move rfl) (.v (fun _ f => .no (.leq rfl rfl) (by omega)) (.v (fun _ f => .move rfl) (.and (b2 := true) 33 42 9 9 rfl rfl (fun g1 => absurd g1 (by simp)) (.nil ?_)))))
      refine .cond_false rfl (.exit ?_)
      rw [su_end (by omega)] at h1
      exact ⟨y, h1, .cons rfl (.cons rfl (.cons rfl (.cons rfl (.nil _)))), fun _ s => s⟩
    have q0 := fun hs' hsub => kd1.at_ (w0 := w) (own := [b]) (hs := hs') (i := y) (by omega) hsub
    have q1 := fun hs' hsub => kd1.at_ (w0 := w) (own := [b]) (hs := hs') (i := a) (by omega) hsub
    refine .seq (.seq (.drawK [(b, .cells l1 25)] (fun _ h => h) (by kernel_rfl) (by kernel_rfl) ?_))
    refine .v (fun _ f => .move rfl) (.v (fun _ f => .move rfl) (.v (fun _ f => .yes (.leq rfl rfl) (by omega)) (.v (fun _ f => .move rfl) (.and (b2 := ltInt d1[y]! d1[a]!) 33 42 9 9 rfl rfl (fun g1 => .v (fun _ f => .move rfl) (.v (fun _ f => .move rfl) (.v (fun _ f => .indexN (y) rfl rfl (by omega)) (.v (fun hs' f => .load (v := .int .u32 d1[y]!) rfl (q0 hs' f)) (.v (fun _ f => .move rfl) (.v (fun _ f => .move rfl) (.v (fun _ f => .indexN (a) rfl rfl (by omega)) (.v (fun hs' f => .load (v := .int .u32 d1[a]!) rfl (q1 hs' f)) (.pc rfl rfl (fun w s => less32_ok w _ _) (.nil ⟨rfl, rfl, rfl, rfl⟩)))))))))) (.nil ?_)))))
    refine .cond rfl (fun g2 => .skip ?_) (fun g2 => .exit ?_)
    · have g2' : (ltInt d1[y]! d1[a]!) = true := by simpa using g2
      refine .block (.region (.v (.move rfl) (.v (.addE ((y + 1 : Nat) : Int) rfl rfl (by omega) (by omega)) (.v (.assign rfl) (.nil ?_)))))
      exact ⟨y + 1, ⟨⟨by omega, by omega⟩, by rw [← h1]; exact (su_go hg g2').symm⟩, by omega, .cons rfl (.cons rfl (.cons rfl (.cons rfl (.nil _)))), fun _ s => s⟩
    · have g2' : (ltInt d1[y]! d1[a]!) = false := by simpa using g2
      exact ⟨y, by rw [← h1]; exact (su_stop (p := (fun x => ltInt x d1[a]!)) g2').symm, .cons rfl (.cons rfl (.cons rfl (.cons rfl (.nil _)))), fun _ s => s⟩
  rintro i2 hi2
  try dsimp only at hi2 ⊢
  have hf := Go.Sort.round_facts (fun x => ltInt x d1[a]!) (fun x => !ltInt x d1[a]!) (fun x => by simp) d1 (a + 1 - 1) ((e - 1) + 1) (a + 1) ((e - 1)) (by omega) (by omega) (fun t h1 h2 => by omega) (fun t h1 h2 => by omega)
  rw [← hi2] at hf
  obtain ⟨f1, f2, f3, f4, _, _, f7⟩ := hf
  refine .mid (X := Nat) (fun x => [(0, .slice (some ⟨b, o, none⟩) n c), (1, .int .i64 a), (10, .int .i64 ((i2 : Nat) : Int)), (11, .int .i64 ((x : Nat) : Int))]) (fun _ => [(b, .cells l1 25)]) (fun x => x = scanDown (fun x => !ltInt x d1[a]!) d1 (i2) ((e - 1))) (.block (.loop (X := Nat) (fun x => [(0, .slice (some ⟨b, o, none⟩) n c), (1, .int .i64 a), (10, .int .i64 ((i2 : Nat) : Int)), (11, .int .i64 ((x : Nat) : Int))]) (fun _ => [(b, .cells l1 25)]) (fun x => (i2 ≤ x + 1 ∧ x ≤ (e - 1)) ∧ scanDown (fun x => !ltInt x d1[a]!) d1 (i2) x = scanDown (fun x => !ltInt x d1[a]!) d1 (i2) ((e - 1))) (fun x => x) ((e - 1)) ⟨⟨by omega, by omega⟩, rfl⟩ (.cons rfl (.cons rfl (.cons rfl (.cons rfl (.nil _))))) (fun _ s => s) ?_)) ?_
  · rintro y ⟨⟨hy1, hy2⟩, h1⟩
    try dsimp only at hy1 hy2 h1 ⊢
    by_cases hg : i2 ≤ y
    case neg =>
      refine .seq (.seq (.drawK [(b, .cells l1 25)] (fun _ h => h) (by kernel_rfl) (by kernel_rfl) ?_))
      refine .v (fun _ f => .move rfl) (.v (fun _ f => .move rfl) (.v (fun _ f => .no (.leq rfl rfl) (by omega)) (.v (fun _ f => .move rfl) (.and (b2 := true) 49 59 10 10 rfl rfl (fun g1 => absurd g1 (by simp)) (.nil ?_)))))
      refine .cond_false rfl (.exit ?_)
      rw [sd_end (by omega)] at h1
      exact ⟨y, h1, .cons rfl (.cons rfl (.cons rfl (.cons rfl (.nil _)))), fun _ s => s⟩
    obtain ⟨y, rfl⟩ : ∃ y', y = y' + 1 := ⟨y - 1, by omega⟩
    have q0 := fun hs' hsub => kd1.at_ (w0 := w) (own := [b]) (hs := hs') (i := y + 1) (by omega) hsub
    have q1 := fun hs' hsub => kd1.at_ (w0 := w) (own := [b]) (hs := hs') (i := a) (by omega) hsub
    refine .seq (.seq (.drawK [(b, .cells l1 25)] (fun _ h => h) (by kernel_rfl) (by kernel_rfl) ?_))
    refine .v (fun _ f => .move rfl) (.v (fun _ f => .move rfl) (.v (fun _ f => .yes (.leq rfl rfl) (by omega)) (.v (fun _ f => .move rfl) (.and (b2 := !ltInt d1[y + 1]! d1[a]!) 49 59 10 10 rfl rfl (fun g1 => .v (fun _ f => .move rfl) (.v (fun _ f => .move rfl) (.v (fun _ f => .indexN (y + 1) rfl rfl (by omega)) (.v (fun hs' f => .load (v := .int .u32 d1[y + 1]!) rfl (q0 hs' f)) (.v (fun _ f => .move rfl) (.v (fun _ f => .move rfl) (.v (fun _ f => .indexN (a) rfl rfl (by omega)) (.v (fun hs' f => .load (v := .int .u32 d1[a]!) rfl (q1 hs' f)) (.pc rfl rfl (fun w s => less32_ok w _ _) (.v (fun _ f => .not rfl) (.nil ⟨rfl, rfl, rfl, rfl⟩))))))))))) (.nil ?_)))))
    refine .cond rfl (fun g2 => .skip ?_) (fun g2 => .exit ?_)
    · have g2' : (!ltInt d1[y + 1]! d1[a]!) = true := by simpa using g2
      refine .block (.region (.v (.move rfl) (.v (.subE (y : Int) rfl rfl (by omega) (by omega)) (.v (.assign rfl) (.nil ?_)))))
      exact ⟨y, ⟨⟨by omega, by omega⟩, by rw [← h1]; exact (sd_go hg g2').symm⟩, by omega, .cons rfl (.cons rfl (.cons rfl (.cons rfl (.nil _)))), fun _ s => s⟩
    · have g2' : (!ltInt d1[y + 1]! d1[a]!) = false := by simpa using g2
      exact ⟨y + 1, by rw [← h1]; exact (sd_stop (p := (fun x => !ltInt x d1[a]!)) g2').symm, .cons rfl (.cons rfl (.cons rfl (.cons rfl (.nil _)))), fun _ s => s⟩
  rintro j2 hj2
  try dsimp only at hj2 ⊢
  rw [← hj2] at f3 f4 f7
  refine .seq (.seq ((.region (.v (.move rfl) (.v (.move rfl) (.v (.gtr rfl rfl) (.nil ?_)))))))
  rw [Go.Sort.partLoop_eq, ← hi2, ← hj2] at hPL
  refine .cond_dec rfl (fun h3 => ?_) (fun h3 => .skip ?_)
  · rw [if_pos (by omega)] at hPL
    subst hPL
    refine .mid (X := Array Int × List Value) (fun _ => [(11, .int .i64 j2)]) (fun x => [(b, .cells x.2 25)]) (fun x => x.1 = swp d1 j2 a ∧ So32 b o c n x.1 x.2) ?_ ?_
    · have ks := kd1.swp (i := j2) (j := a) (by omega) (by omega)
      have q0 := fun hs' hsub => kd1.at_ (w0 := w) (own := [b]) (hs := hs') (i := j2) (by omega) hsub
      have q1 := fun hs' hsub => kd1.at_ (w0 := w) (own := [b]) (hs := hs') (i := a) (by omega) hsub
      have hlen := kd1.len
      have ex : ∃ d' : Array Int, d' = swp d1 j2 a := ⟨_, rfl⟩
      generalize d1[j2]! = x0 at q0 ks
      generalize d1[a]! = x1 at q1 ks
      refine .drawY 13 [0, 1, 2, 3, 4, 5, 6, 7, 8, 9, 10, 11, 12, 13, 14, 15] [(b, .cells l1 25)] (fun _ h => h) (by kernel_rfl) (by kernel_rfl) ?_
      refine .x (fun _ _ _ => .move rfl) (.x (fun _ _ _ => .move rfl) (.x (fun _ _ _ => .move rfl) (.x (fun _ _ _ => .move rfl) (.x (fun _ _ _ => .move rfl) (.x (fun _ _ _ => .move rfl) (.x (fun _ _ _ => .indexN (a) rfl rfl (by omega)) (.v (fun hs' f => .load (v := .int .u32 x1) rfl (q1 hs' f)) (.x (fun _ _ _ => .move rfl) (.x (fun _ _ _ => .move rfl) (.x (fun _ _ _ => .indexN (j2) rfl rfl (by omega)) (.v (fun hs' f => .load (v := .int .u32 x0) rfl (q0 hs' f)) (.x (fun _ _ _ => .indexN (j2) rfl rfl (by omega)) (.st (.store rfl rfl rfl (by omega)) (.x (fun _ _ _ => .indexN (a) rfl rfl (by omega)) (.st2 (.store rfl rfl rfl (by rw [List.length_set]; omega)) (.nil ?_))))))))))))))))
      exact ⟨(swp d1 (j2) (a), (l1.set (o + (j2)) (.int .u32 x1)).set (o + (a)) (.int .u32 x0)), ⟨rfl, ks⟩, .cons rfl (.nil _), fun _ s => s⟩
    rintro ⟨d2, l2⟩ ⟨hd2, kd2⟩
    try dsimp only at hd2 kd2 ⊢
    have zd2 := kd2.sz
    refine .seq ((.region (.v (.move rfl) (.v (.assign rfl) (.v (.assign rfl) (.nil ?_))))))
    exact .ret ⟨[_, _], ⟨rfl, rfl, trivial⟩, l2, _, rfl, rfl, hd2 ▸ kd2⟩
  · rw [if_neg (by omega)] at hPL
    have f8 := (f7 (by omega)).2.2
    refine .mid (X := Array Int × List Value) (fun _ => [(0, .slice (some ⟨b, o, none⟩) n c), (1, .int .i64 a), (10, .int .i64 ((i2 : Nat) : Int)), (11, .int .i64 ((j2 : Nat) : Int))]) (fun x => [(b, .cells x.2 25)]) (fun x => x.1 = swp d1 i2 j2 ∧ So32 b o c n x.1 x.2) ?_ ?_
    · have ks := kd1.swp (i := i2) (j := j2) (by omega) (by omega)
      have q0 := fun hs' hsub => kd1.at_ (w0 := w) (own := [b]) (hs := hs') (i := i2) (by omega) hsub
      have q1 := fun hs' hsub => kd1.at_ (w0 := w) (own := [b]) (hs := hs') (i := j2) (by omega) hsub
      have hlen := kd1.len
      have ex : ∃ d' : Array Int, d' = swp d1 i2 j2 := ⟨_, rfl⟩
      generalize d1[i2]! = x0 at q0 ks
      generalize d1[j2]! = x1 at q1 ks
      refine .drawY 13 [0, 1, 2, 3, 4, 5, 6, 7, 8, 9, 10, 11, 12, 13, 14, 15] [(b, .cells l1 25)] (fun _ h => h) (by kernel_rfl) (by kernel_rfl) ?_
      refine .x (fun _ _ _ => .move rfl) (.x (fun _ _ _ => .move rfl) (.x (fun _ _ _ => .move rfl) (.x (fun _ _ _ => .move rfl) (.x (fun _ _ _ => .move rfl) (.x (fun _ _ _ => .move rfl) (.x (fun _ _ _ => .indexN (j2) rfl rfl (by omega)) (.v (fun hs' f => .load (v := .int .u32 x1) rfl (q1 hs' f)) (.x (fun _ _ _ => .move rfl) (.x (fun _ _ _ => .move rfl) (.x (fun _ _ _ => .indexN (i2) rfl rfl (by omega)) (.v (fun hs' f => .load (v := .int .u32 x0) rfl (q0 hs' f)) (.x (fun _ _ _ => .indexN (i2) rfl rfl (by omega)) (.st (.store rfl rfl rfl (by omega)) (.x (fun _ _ _ => .indexN (j2) rfl rfl (by omega)) (.st2 (.store rfl rfl rfl (by rw [List.length_set]; omega)) (.nil ?_))))))))))))))))
      exact ⟨(swp d1 (i2) (j2), (l1.set (o + (i2)) (.int .u32 x1)).set (o + (j2)) (.int .u32 x0)), ⟨rfl, ks⟩, .cons rfl (.cons rfl (.cons rfl (.cons rfl (.nil _)))), fun _ s => s⟩
    rintro ⟨d2, l2⟩ ⟨hd2, kd2⟩
    try dsimp only at hd2 kd2 ⊢
    have zd2 := kd2.sz
    rw [← hd2] at hPL
    clear f7 hi2 hj2 hd2 kd1 zd1
    refine .seq ((.region (.v (.move rfl) (.v (.addE ((i2 + 1 : Nat) : Int) rfl rfl (by omega) (by omega)) (.v (.assign rfl) (.nil ?_))))))
    refine .seq ((.region (.v (.move rfl) (.v (.subE ((j2 - 1 : Nat) : Int) rfl rfl (by omega) (by omega)) (.v (.assign rfl) (.nil ?_))))))
    refine .seq (.block (.loop (X := PS) (fun x => [(0, .slice (some ⟨b, o, none⟩) n c), (1, .int .i64 a), (10, .int .i64 ((x.i : Nat) : Int)), (11, .int .i64 ((x.j : Nat) : Int))]) (fun x => [(b, .cells x.l 25)]) (fun x => (a + 1 ≤ x.i ∧ x.i ≤ x.j + 1 ∧ x.j < e) ∧ So32 b o c n x.d x.l ∧ partLoop ltInt a x.i x.j x.d = PL) (fun x => x.j + 1 - x.i) ⟨i2 + 1, j2 - 1, d2, l2⟩ ⟨⟨by show a + 1 ≤ i2 + 1; omega, by show i2 + 1 ≤ j2 - 1 + 1; omega, by show j2 - 1 < e; omega⟩, kd2, hPL⟩ (.cons rfl (.cons rfl (.cons rfl (.cons rfl (.nil _))))) (fun _ s => s) ?_))
    clear hPL
    rintro ⟨i, j, d3, l3⟩ ⟨⟨g1, g2, g3⟩, k3, hPL⟩
    try dsimp only at g1 g2 g3 k3 hPL ⊢
    refine .block ?_
    clear f1 f2 f3 f4 f8 h3 kd2 zd2
    refine .mid (X := Nat) (fun x => [(0, .slice (some ⟨b, o, none⟩) n c), (1, .int .i64 a), (10, .int .i64 ((x : Nat) : Int)), (11, .int .i64 ((j : Nat) : Int))]) (fun _ => [(b, .cells l3 25)]) (fun x => x = scanUp (fun x => ltInt x d3[a]!) d3 (j) (i)) (.block (.loop (X := Nat) (fun x => [(0, .slice (some ⟨b, o, none⟩) n c), (1, .int .i64 a), (10, .int .i64 ((x : Nat) : Int)), (11, .int .i64 ((j : Nat) : Int))]) (fun _ => [(b, .cells l3 25)]) (fun x => (i ≤ x ∧ x ≤ j + 1) ∧ scanUp (fun x => ltInt x d3[a]!) d3 (j) x = scanUp (fun x => ltInt x d3[a]!) d3 (j) (i)) (fun x => j + 1 - x) (i) ⟨⟨by omega, by omega⟩, rfl⟩ (.cons rfl (.cons rfl (.cons rfl (.cons rfl (.nil _))))) (fun _ s => s) ?_)) ?_
    · rintro y ⟨⟨hy1, hy2⟩, h1⟩
      try dsimp only at hy1 hy2 h1 ⊢
      by_cases hg : y ≤ j
      case neg =>
        refine .seq (.seq (.drawK [(b, .cells l3 25)] (fun _ h => h) (by kernel_rfl) (by kernel_rfl) ?_))
        refine .v (fun _ f => .move rfl) (.v (fun _ f => .move rfl) (.v (fun _ f => .no (.leq rfl rfl) (by omega)) (.v (fun _ f => .move rfl) (.and (b2 := true) 102 111 9 9 rfl rfl (fun g1 => absurd g1 (by simp)) (.nil ?_)))))
        refine .cond_false rfl (.exit ?_)
        rw [su_end (by omega)] at h1
        exact ⟨y, h1, .cons rfl (.cons rfl (.cons rfl (.cons rfl (.nil _)))), fun _ s => s⟩
      have q0 := fun hs' hsub => k3.at_ (w0 := w) (own := [b]) (hs := hs') (i := y) (by omega) hsub
      have q1 := fun hs' hsub => k3.at_ (w0 := w) (own := [b]) (hs := hs') (i := a) (by omega) hsub
      refine .seq (.seq (.drawK [(b, .cells l3 25)] (fun _ h => h) (by kernel_rfl) (by kernel_rfl) ?_))
      refine .v (fun _ f => .move rfl) (.v (fun _ f => .move rfl) (.v (fun _ f => .yes (.leq rfl rfl) (by omega)) (.v (fun _ f => .move rfl) (.and (b2 := ltInt d3[y]! d3[a]!) 102 111 9 9 rfl rfl (fun g1 => .v (fun _ f => .move rfl) (.v (fun _ f => .move rfl) (.v (fun _ f => .indexN (y) rfl rfl (by omega)) (.v (fun hs' f => .load (v := .int .u32 d3[y]!) rfl (q0 hs' f)) (.v (fun _ f => .move rfl) (.v (fun _ f => .move rfl) (.v (fun _ f => .indexN (a) rfl rfl (by omega)) (.v (fun hs' f => .load (v := .int .u32 d3[a]!) rfl (q1 hs' f)) (.pc rfl rfl (fun w s => less32_ok w _ _) (.nil ⟨rfl, rfl, rfl, rfl⟩)))))))))) (.nil ?_)))))
      refine .cond rfl (fun g2 => .skip ?_) (fun g2 => .exit ?_)
      · have g2' : (ltInt d3[y]! d3[a]!) = true := by simpa using g2
        refine .block (.region (.v (.move rfl) (.v (.addE ((y + 1 : Nat) : Int) rfl rfl (by omega) (by omega)) (.v (.assign rfl) (.nil ?_)))))
        exact ⟨y + 1, ⟨⟨by omega, by omega⟩, by rw [← h1]; exact (su_go hg g2').symm⟩, by omega, .cons rfl (.cons rfl (.cons rfl (.cons rfl (.nil _)))), fun _ s => s⟩
      · have g2' : (ltInt d3[y]! d3[a]!) = false := by simpa using g2
        exact ⟨y, by rw [← h1]; exact (su_stop (p := (fun x => ltInt x d3[a]!)) g2').symm, .cons rfl (.cons rfl (.cons rfl (.cons rfl (.nil _)))), fun _ s => s⟩
    rintro i2 hi2
    try dsimp only at hi2 ⊢
    have hf := Go.Sort.round_facts (fun x => ltInt x d3[a]!) (fun x => !ltInt x d3[a]!) (fun x => by simp) d3 (i - 1) (j + 1) (i) (j) (by omega) (by omega) (fun t h1 h2 => by omega) (fun t h1 h2 => by omega)
    rw [← hi2] at hf
    obtain ⟨f1, f2, f3, f4, _, _, f7⟩ := hf
    refine .mid (X := Nat) (fun x => [(0, .slice (some ⟨b, o, none⟩) n c), (1, .int .i64 a), (10, .int .i64 ((i2 : Nat) : Int)), (11, .int .i64 ((x : Nat) : Int))]) (fun _ => [(b, .cells l3 25)]) (fun x => x = scanDown (fun x => !ltInt x d3[a]!) d3 (i2) (j)) (.block (.loop (X := Nat) (fun x => [(0, .slice (some ⟨b, o, none⟩) n c), (1, .int .i64 a), (10, .int .i64 ((i2 : Nat) : Int)), (11, .int .i64 ((x : Nat) : Int))]) (fun _ => [(b, .cells l3 25)]) (fun x => (i2 ≤ x + 1 ∧ x ≤ j) ∧ scanDown (fun x => !ltInt x d3[a]!) d3 (i2) x = scanDown (fun x => !ltInt x d3[a]!) d3 (i2) (j)) (fun x => x) (j) ⟨⟨by omega, by omega⟩, rfl⟩ (.cons rfl (.cons rfl (.cons rfl (.cons rfl (.nil _))))) (fun _ s => s) ?_)) ?_
    · rintro y ⟨⟨hy1, hy2⟩, h1⟩
      try dsimp only at hy1 hy2 h1 ⊢
      by_cases hg : i2 ≤ y
      case neg =>
        refine .seq (.seq (.drawK [(b, .cells l3 25)] (fun _ h => h) (by kernel_rfl) (by kernel_rfl) ?_))
        refine .v (fun _ f => .move rfl) (.v (fun _ f => .move rfl) (.v (fun _ f => .no (.leq rfl rfl) (by omega)) (.v (fun _ f => .move rfl) (.and (b2 := true) 118 128 10 10 rfl rfl (fun g1 => absurd g1 (by simp)) (.nil ?_)))))
        refine .cond_false rfl (.exit ?_)
        rw [sd_end (by omega)] at h1
        exact ⟨y, h1, .cons rfl (.cons rfl (.cons rfl (.cons rfl (.nil _)))), fun _ s => s⟩
      obtain ⟨y, rfl⟩ : ∃ y', y = y' + 1 := ⟨y - 1, by omega⟩
      have q0 := fun hs' hsub => k3.at_ (w0 := w) (own := [b]) (hs := hs') (i := y + 1) (by omega) hsub
      have q1 := fun hs' hsub => k3.at_ (w0 := w) (own := [b]) (hs := hs') (i := a) (by omega) hsub
      refine .seq (.seq (.drawK [(b, .cells l3 25)] (fun _ h => h) (by kernel_rfl) (by kernel_rfl) ?_))
      refine .v (fun _ f => .move rfl) (.v (fun _ f => .move rfl) (.v (fun _ f => .yes (.leq rfl rfl) (by omega)) (.v (fun _ f => .move rfl) (.and (b2 := !ltInt d3[y + 1]! d3[a]!) 118 128 10 10 rfl rfl (fun g1 => .v (fun _ f => .move rfl) (.v (fun _ f => .move rfl) (.v (fun _ f => .indexN (y + 1) rfl rfl (by omega)) (.v (fun hs' f => .load (v := .int .u32 d3[y + 1]!) rfl (q0 hs' f)) (.v (fun _ f => .move rfl) (.v (fun _ f => .move rfl) (.v (fun _ f => .indexN (a) rfl rfl (by omega)) (.v (fun hs' f => .load (v := .int .u32 d3[a]!) rfl (q1 hs' f)) (.pc rfl rfl (fun w s => less32_ok w _ _) (.v (fun _ f => .not rfl) (.nil ⟨rfl, rfl, rfl, rfl⟩))))))))))) (.nil ?_)))))
      refine .cond rfl (fun g2 => .skip ?_) (fun g2 => .exit ?_)
      · have g2' : (!ltInt d3[y + 1]! d3[a]!) = true := by simpa using g2
        refine .block (.region (.v (.move rfl) (.v (.subE (y : Int) rfl rfl (by omega) (by omega)) (.v (.assign rfl) (.nil ?_)))))
        exact ⟨y, ⟨⟨by omega, by omega⟩, by rw [← h1]; exact (sd_go hg g2').symm⟩, by omega, .cons rfl (.cons rfl (.cons rfl (.cons rfl (.nil _)))), fun _ s => s⟩
      · have g2' : (!ltInt d3[y + 1]! d3[a]!) = false := by simpa using g2
        exact ⟨y + 1, by rw [← h1]; exact (sd_stop (p := (fun x => !ltInt x d3[a]!)) g2').symm, .cons rfl (.cons rfl (.cons rfl (.cons rfl (.nil _)))), fun _ s => s⟩
    rintro j2 hj2
    try dsimp only at hj2 ⊢
    rw [← hj2] at f3 f4 f7
    refine .seq (.seq ((.region (.v (.move rfl) (.v (.move rfl) (.v (.gtr rfl rfl) (.nil ?_)))))))
    rw [Go.Sort.partLoop_eq, ← hi2, ← hj2] at hPL
    refine .cond_dec rfl (fun h3 => .exit ?_) (fun h3 => .skip ?_)
    · rw [if_pos (by omega)] at hPL
      subst hPL
      refine .mid (X := Array Int × List Value) (fun _ => [(11, .int .i64 j2)]) (fun x => [(b, .cells x.2 25)]) (fun x => x.1 = swp d3 j2 a ∧ So32 b o c n x.1 x.2) ?_ ?_
      · have ks := k3.swp (i := j2) (j := a) (by omega) (by omega)
        have q0 := fun hs' hsub => k3.at_ (w0 := w) (own := [b]) (hs := hs') (i := j2) (by omega) hsub
        have q1 := fun hs' hsub => k3.at_ (w0 := w) (own := [b]) (hs := hs') (i := a) (by omega) hsub
        have hlen := k3.len
        have ex : ∃ d' : Array Int, d' = swp d3 j2 a := ⟨_, rfl⟩
        generalize d3[j2]! = x0 at q0 ks
        generalize d3[a]! = x1 at q1 ks
        refine .drawY 13 [0, 1, 2, 3, 4, 5, 6, 7, 8, 9, 10, 11, 12, 13, 14, 15] [(b, .cells l3 25)] (fun _ h => h) (by kernel_rfl) (by kernel_rfl) ?_
        refine .x (fun _ _ _ => .move rfl) (.x (fun _ _ _ => .move rfl) (.x (fun _ _ _ => .move rfl) (.x (fun _ _ _ => .move rfl) (.x (fun _ _ _ => .move rfl) (.x (fun _ _ _ => .move rfl) (.x (fun _ _ _ => .indexN (a) rfl rfl (by omega)) (.v (fun hs' f => .load (v := .int .u32 x1) rfl (q1 hs' f)) (.x (fun _ _ _ => .move rfl) (.x (fun _ _ _ => .move rfl) (.x (fun _ _ _ => .indexN (j2) rfl rfl (by omega)) (.v (fun hs' f => .load (v := .int .u32 x0) rfl (q0 hs' f)) (.x (fun _ _ _ => .indexN (j2) rfl rfl (by omega)) (.st (.store rfl rfl rfl (by omega)) (.x (fun _ _ _ => .indexN (a) rfl rfl (by omega)) (.st2 (.store rfl rfl rfl (by rw [List.length_set]; omega)) (.nil ?_))))))))))))))))
        exact ⟨(swp d3 (j2) (a), (l3.set (o + (j2)) (.int .u32 x1)).set (o + (a)) (.int .u32 x0)), ⟨rfl, ks⟩, .cons rfl (.nil _), fun _ s => s⟩
      rintro ⟨d4, l4⟩ ⟨hd4, kd4⟩
      try dsimp only at hd4 kd4 ⊢
      have zd4 := kd4.sz
      refine .seq ((.region (.v (.move rfl) (.v (.assign rfl) (.v (.assign rfl) (.nil ?_))))))
      exact .ret ⟨[_, _], ⟨rfl, rfl, trivial⟩, l4, _, rfl, rfl, hd4 ▸ kd4⟩
    · rw [if_neg (by omega)] at hPL
      have f8 := (f7 (by omega)).2.2
      refine .mid (X := Array Int × List Value) (fun _ => [(0, .slice (some ⟨b, o, none⟩) n c), (1, .int .i64 a), (10, .int .i64 ((i2 : Nat) : Int)), (11, .int .i64 ((j2 : Nat) : Int))]) (fun x => [(b, .cells x.2 25)]) (fun x => x.1 = swp d3 i2 j2 ∧ So32 b o c n x.1 x.2) ?_ ?_
      · have ks := k3.swp (i := i2) (j := j2) (by omega) (by omega)
        have q0 := fun hs' hsub => k3.at_ (w0 := w) (own := [b]) (hs := hs') (i := i2) (by omega) hsub
        have q1 := fun hs' hsub => k3.at_ (w0 := w) (own := [b]) (hs := hs') (i := j2) (by omega) hsub
        have hlen := k3.len
        have ex : ∃ d' : Array Int, d' = swp d3 i2 j2 := ⟨_, rfl⟩
        generalize d3[i2]! = x0 at q0 ks
        generalize d3[j2]! = x1 at q1 ks
        refine .drawY 13 [0, 1, 2, 3, 4, 5, 6, 7, 8, 9, 10, 11, 12, 13, 14, 15] [(b, .cells l3 25)] (fun _ h => h) (by kernel_rfl) (by kernel_rfl) ?_
        refine .x (fun _ _ _ => .move rfl) (.x (fun _ _ _ => .move rfl) (.x (fun _ _ _ => .move rfl) (.x (fun _ _ _ => .move rfl) (.x (fun _ _ _ => .move rfl) (.x (fun _ _ _ => .move rfl) (.x (fun _ _ _ => .indexN (j2) rfl rfl (by omega)) (.v (fun hs' f => .load (v := .int .u32 x1) rfl (q1 hs' f)) (.x (fun _ _ _ => .move rfl) (.x (fun _ _ _ => .move rfl) (.x (fun _ _ _ => .indexN (i2) rfl rfl (by omega)) (.v (fun hs' f => .load (v := .int .u32 x0) rfl (q0 hs' f)) (.x (fun _ _ _ => .indexN (i2) rfl rfl (by omega)) (.st (.store rfl rfl rfl (by omega)) (.x (fun _ _ _ => .indexN (j2) rfl rfl (by omega)) (.st2 (.store rfl rfl rfl (by rw [List.length_set]; omega)) (.nil ?_))))))))))))))))
        exact ⟨(swp d3 (i2) (j2), (l3.set (o + (i2)) (.int .u32 x1)).set (o + (j2)) (.int .u32 x0)), ⟨rfl, ks⟩, .cons rfl (.cons rfl (.cons rfl (.cons rfl (.nil _)))), fun _ s => s⟩
      rintro ⟨d4, l4⟩ ⟨hd4, kd4⟩
      try dsimp only at hd4 kd4 ⊢
      have zd4 := kd4.sz
      rw [← hd4] at hPL
      refine .seq ((.region (.v (.move rfl) (.v (.addE ((i2 + 1 : Nat) : Int) rfl rfl (by omega) (by omega)) (.v (.assign rfl) (.nil ?_))))))
      refine .region (.v (.move rfl) (.v (.subE ((j2 - 1 : Nat) : Int) rfl rfl (by omega) (by omega)) (.v (.assign rfl) (.nil ?_))))
      exact ⟨⟨i2 + 1, j2 - 1, d4, l4⟩, ⟨⟨by show a + 1 ≤ i2 + 1; omega, by show i2 + 1 ≤ j2 - 1 + 1; omega, by show j2 - 1 < e; omega⟩, kd4, hPL⟩, by show j2 - 1 + 1 - (i2 + 1) < j + 1 - i; omega, .cons rfl (.cons rfl (.cons rfl (.cons rfl (.nil _)))), fun _ s => s⟩
set_option maxRecDepth 20000 in
theorem partEq32_ok (w : World) {b o c n : Nat} {d : Array Int} {l : List Value} (k : So32 b o c n d l) (a e p : Nat) (hap : a ≤ p) (hpe : p < e) (he : e ≤ n) (hn : n < 2305843009213693952) :
    Does Try.prog 94 [.slice (some ⟨b, o, none⟩) n c, .int .i64 a, .int .i64 e, .int .i64 p] [(b, .cells l 25)] w (fun v hs => ∃ l', v = .int .i64 (partitionEqual ltInt d a e p).1 ∧ hs = [(b, .cells l' 25)] ∧ So32 b o c n (partitionEqual ltInt d a e p).2 l') := by
  generalize hPL : partitionEqual ltInt d a e p = PL
  replace hPL : partEqLoop ltInt a (a + 1) (e - 1) (swp d a p) = PL := hPL
  refine Does.of (n := 84) Try.func94 rfl rfl rfl rfl ?_
  refine .seq ((.region (.v (.assign rfl) (.nil ?_))))
  refine .mid (X := Array Int × List Value) (fun _ => [(0, .slice (some ⟨b, o, none⟩) n c), (1, .int .i64 a), (2, .int .i64 e)]) (fun x => [(b, .cells x.2 25)]) (fun x => x.1 = swp d a p ∧ So32 b o c n x.1 x.2) ?_ ?_
  · have ks := k.swp (i := a) (j := p) (by omega) (by omega)
    have q0 := fun hs' hsub => k.at_ (w0 := w) (own := [b]) (hs := hs') (i := a) (by omega) hsub
    have q1 := fun hs' hsub => k.at_ (w0 := w) (own := [b]) (hs := hs') (i := p) (by omega) hsub
    have hlen := k.len
    have ex : ∃ d' : Array Int, d' = swp d a p := ⟨_, rfl⟩
    generalize d[a]! = x0 at q0 ks
    generalize d[p]! = x1 at q1 ks
    refine .drawY 13 [0, 1, 2, 3, 4, 5, 6, 7, 8, 9, 10, 11, 12, 13, 14, 15] [(b, .cells l 25)] (fun _ h => h) (by kernel_rfl) (by kernel_rfl) ?_
    refine .x (fun _ _ _ => .move rfl) (.x (fun _ _ _ => .move rfl) (.x (fun _ _ _ => .move rfl) (.x (fun _ _ _ => .move rfl) (.x (fun _ _ _ => .move rfl) (.x (fun _ _ _ => .move rfl) (.x (fun _ _ _ => .indexN (p) rfl rfl (by omega)) (.v (fun hs' f => .load (v := .int .u32 x1) rfl (q1 hs' f)) (.x (fun _ _ _ => .move rfl) (.x (fun _ _ _ => .move rfl) (.x (fun _ _ _ => .indexN (a) rfl rfl (by omega)) (.v (fun hs' f => .load (v := .int .u32 x0) rfl (q0 hs' f)) (.x (fun _ _ _ => .indexN (a) rfl rfl (by omega)) (.st (.store rfl rfl rfl (by omega)) (.x (fun _ _ _ => .indexN (p) rfl rfl (by omega)) (.st2 (.store rfl rfl rfl (by rw [List.length_set]; omega)) (.nil ?_))))))))))))))))
    exact ⟨(swp d (a) (p), (l.set (o + (a)) (.int .u32 x1)).set (o + (p)) (.int .u32 x0)), ⟨rfl, ks⟩, .cons rfl (.cons rfl (.cons rfl (.nil _))), fun _ s => s⟩
  rintro ⟨d1, l1⟩ ⟨hd1, kd1⟩
  try dsimp only at hd1 kd1 ⊢
  have zd1 := kd1.sz
  rw [← hd1] at hPL
  clear hd1 k
  refine .seq ((.region (.v (.move rfl) (.v (.addE ((a + 1 : Nat) : Int) rfl rfl (by omega) (by omega)) (.v (.move rfl) (.v (.subE ((e - 1 : Nat) : Int) rfl rfl (by omega) (by omega)) (.v (.assign rfl) (.v (.assign rfl) (.nil ?_)))))))))
  refine .seq (.block (.loop (X := PS) (fun x => [(0, .slice (some ⟨b, o, none⟩) n c), (1, .int .i64 a), (9, .int .i64 ((x.i : Nat) : Int)), (10, .int .i64 ((x.j : Nat) : Int))]) (fun x => [(b, .cells x.l 25)]) (fun x => (a + 1 ≤ x.i ∧ x.i ≤ x.j + 1 ∧ x.j < e) ∧ So32 b o c n x.d x.l ∧ partEqLoop ltInt a x.i x.j x.d = PL) (fun x => x.j + 1 - x.i) ⟨a + 1, e - 1, d1, l1⟩ ⟨⟨by show a + 1 ≤ a + 1; omega, by show a + 1 ≤ e - 1 + 1; omega, by show e - 1 < e; omega⟩, kd1, hPL⟩ (.cons rfl (.cons rfl (.cons rfl (.cons rfl (.nil _))))) (fun _ s => s) ?_))
  clear hPL
  rintro ⟨i, j, d3, l3⟩ ⟨⟨g1, g2, g3⟩, k3, hPL⟩
  try dsimp only at g1 g2 g3 k3 hPL ⊢
  refine .block ?_
  clear kd1 zd1
  refine .mid (X := Nat) (fun x => [(0, .slice (some ⟨b, o, none⟩) n c), (1, .int .i64 a), (9, .int .i64 ((x : Nat) : Int)), (10, .int .i64 ((j : Nat) : Int))]) (fun _ => [(b, .cells l3 25)]) (fun x => x = scanUp (fun x => !ltInt d3[a]! x) d3 (j) (i)) (.block (.loop (X := Nat) (fun x => [(0, .slice (some ⟨b, o, none⟩) n c), (1, .int .i64 a), (9, .int .i64 ((x : Nat) : Int)), (10, .int .i64 ((j : Nat) : Int))]) (fun _ => [(b, .cells l3 25)]) (fun x => (i ≤ x ∧ x ≤ j + 1) ∧ scanUp (fun x => !ltInt d3[a]! x) d3 (j) x = scanUp (fun x => !ltInt d3[a]! x) d3 (j) (i)) (fun x => j + 1 - x) (i) ⟨⟨by omega, by omega⟩, rfl⟩ (.cons rfl (.cons rfl (.cons rfl (.cons rfl (.nil _))))) (fun _ s => s) ?_)) ?_
  · rintro y ⟨⟨hy1, hy2⟩, h1⟩
    try dsimp only at hy1 hy2 h1 ⊢
    by_cases hg : y ≤ j
    case neg =>
      refine .seq (.seq (.drawK [(b, .cells l3 25)] (fun _ h => h) (by kernel_rfl) (by kernel_rfl) ?_))
      refine .v (fun _ f => .move rfl) (.v (fun _ f => .move rfl) (.v (fun _ f => .no (.leq rfl rfl) (by omega)) (.v (fun _ f => .move rfl) (.and (b2 := true) 32 42 10 10 rfl rfl (fun g1 => absurd g1 (by simp)) (.nil ?_)))))
      refine .cond_false rfl (.exit ?_)
      rw [su_end (by omega)] at h1
      exact ⟨y, h1, .cons rfl (.cons rfl (.cons rfl (.cons rfl (.nil _)))), fun _ s => s⟩
    have q0 := fun hs' hsub => k3.at_ (w0 := w) (own := [b]) (hs := hs') (i := y) (by omega) hsub
    have q1 := fun hs' hsub => k3.at_ (w0 := w) (own := [b]) (hs := hs') (i := a) (by omega) hsub
    refine .seq (.seq (.drawK [(b, .cells l3 25)] (fun _ h => h) (by kernel_rfl) (by kernel_rfl) ?_))
    refine .v (fun _ f => .move rfl) (.v (fun _ f => .move rfl) (.v (fun _ f => .yes (.leq rfl rfl) (by omega)) (.v (fun _ f => .move rfl) (.and (b2 := !ltInt d3[a]! d3[y]!) 32 42 10 10 rfl rfl (fun g1 => .v (fun _ f => .move rfl) (.v (fun _ f => .move rfl) (.v (fun _ f => .indexN (a) rfl rfl (by omega)) (.v (fun hs' f => .load (v := .int .u32 d3[a]!) rfl (q1 hs' f)) (.v (fun _ f => .move rfl) (.v (fun _ f => .move rfl) (.v (fun _ f => .indexN (y) rfl rfl (by omega)) (.v (fun hs' f => .load (v := .int .u32 d3[y]!) rfl (q0 hs' f)) (.pc rfl rfl (fun w s => less32_ok w _ _) (.v (fun _ f => .not rfl) (.nil ⟨rfl, rfl, rfl, rfl⟩))))))))))) (.nil ?_)))))
    refine .cond rfl (fun g2 => .skip ?_) (fun g2 => .exit ?_)
    · have g2' : (!ltInt d3[a]! d3[y]!) = true := by simpa using g2
      refine .block (.region (.v (.move rfl) (.v (.addE ((y + 1 : Nat) : Int) rfl rfl (by omega) (by omega)) (.v (.assign rfl) (.nil ?_)))))
      exact ⟨y + 1, ⟨⟨by omega, by omega⟩, by rw [← h1]; exact (su_go hg g2').symm⟩, by omega, .cons rfl (.cons rfl (.cons rfl (.cons rfl (.nil _)))), fun _ s => s⟩
    · have g2' : (!ltInt d3[a]! d3[y]!) = false := by simpa using g2
      exact ⟨y, by rw [← h1]; exact (su_stop (p := (fun x => !ltInt d3[a]! x)) g2').symm, .cons rfl (.cons rfl (.cons rfl (.cons rfl (.nil _)))), fun _ s => s⟩
  rintro i2 hi2
  try dsimp only at hi2 ⊢
  have hf := Go.Sort.round_facts (fun x => !ltInt d3[a]! x) (fun x => ltInt d3[a]! x) (fun x => by simp) d3 (i - 1) (j + 1) (i) (j) (by omega) (by omega) (fun t h1 h2 => by omega) (fun t h1 h2 => by omega)
  rw [← hi2] at hf
  obtain ⟨f1, f2, f3, f4, _, _, f7⟩ := hf
  refine .mid (X := Nat) (fun x => [(0, .slice (some ⟨b, o, none⟩) n c), (1, .int .i64 a), (9, .int .i64 ((i2 : Nat) : Int)), (10, .int .i64 ((x : Nat) : Int))]) (fun _ => [(b, .cells l3 25)]) (fun x => x = scanDown (fun x => ltInt d3[a]! x) d3 (i2) (j)) (.block (.loop (X := Nat) (fun x => [(0, .slice (some ⟨b, o, none⟩) n c), (1, .int .i64 a), (9, .int .i64 ((i2 : Nat) : Int)), (10, .int .i64 ((x : Nat) : Int))]) (fun _ => [(b, .cells l3 25)]) (fun x => (i2 ≤ x + 1 ∧ x ≤ j) ∧ scanDown (fun x => ltInt d3[a]! x) d3 (i2) x = scanDown (fun x => ltInt d3[a]! x) d3 (i2) (j)) (fun x => x) (j) ⟨⟨by omega, by omega⟩, rfl⟩ (.cons rfl (.cons rfl (.cons rfl (.cons rfl (.nil _))))) (fun _ s => s) ?_)) ?_
  · rintro y ⟨⟨hy1, hy2⟩, h1⟩
    try dsimp only at hy1 hy2 h1 ⊢
    by_cases hg : i2 ≤ y
    case neg =>
      refine .seq (.seq (.drawK [(b, .cells l3 25)] (fun _ h => h) (by kernel_rfl) (by kernel_rfl) ?_))
      refine .v (fun _ f => .move rfl) (.v (fun _ f => .move rfl) (.v (fun _ f => .no (.leq rfl rfl) (by omega)) (.v (fun _ f => .move rfl) (.and (b2 := true) 49 58 9 9 rfl rfl (fun g1 => absurd g1 (by simp)) (.nil ?_)))))
      refine .cond_false rfl (.exit ?_)
      rw [sd_end (by omega)] at h1
      exact ⟨y, h1, .cons rfl (.cons rfl (.cons rfl (.cons rfl (.nil _)))), fun _ s => s⟩
    obtain ⟨y, rfl⟩ : ∃ y', y = y' + 1 := ⟨y - 1, by omega⟩
    have q0 := fun hs' hsub => k3.at_ (w0 := w) (own := [b]) (hs := hs') (i := y + 1) (by omega) hsub
    have q1 := fun hs' hsub => k3.at_ (w0 := w) (own := [b]) (hs := hs') (i := a) (by omega) hsub
    refine .seq (.seq (.drawK [(b, .cells l3 25)] (fun _ h => h) (by kernel_rfl) (by kernel_rfl) ?_))
    refine .v (fun _ f => .move rfl) (.v (fun _ f => .move rfl) (.v (fun _ f => .yes (.leq rfl rfl) (by omega)) (.v (fun _ f => .move rfl) (.and (b2 := ltInt d3[a]! d3[y + 1]!) 49 58 9 9 rfl rfl (fun g1 => .v (fun _ f => .move rfl) (.v (fun _ f => .move rfl) (.v (fun _ f => .indexN (a) rfl rfl (by omega)) (.v (fun hs' f => .load (v := .int .u32 d3[a]!) rfl (q1 hs' f)) (.v (fun _ f => .move rfl) (.v (fun _ f => .move rfl) (.v (fun _ f => .indexN (y + 1) rfl rfl (by omega)) (.v (fun hs' f => .load (v := .int .u32 d3[y + 1]!) rfl (q0 hs' f)) (.pc rfl rfl (fun w s => less32_ok w _ _) (.nil ⟨rfl, rfl, rfl, rfl⟩)))))))))) (.nil ?_)))))
    refine .cond rfl (fun g2 => .skip ?_) (fun g2 => .exit ?_)
    · have g2' : (ltInt d3[a]! d3[y + 1]!) = true := by simpa using g2
      refine .block (.region (.v (.move rfl) (.v (.subE (y : Int) rfl rfl (by omega) (by omega)) (.v (.assign rfl) (.nil ?_)))))
      exact ⟨y, ⟨⟨by omega, by omega⟩, by rw [← h1]; exact (sd_go hg g2').symm⟩, by omega, .cons rfl (.cons rfl (.cons rfl (.cons rfl (.nil _)))), fun _ s => s⟩
    · have g2' : (ltInt d3[a]! d3[y + 1]!) = false := by simpa using g2
      exact ⟨y + 1, by rw [← h1]; exact (sd_stop (p := (fun x => ltInt d3[a]! x)) g2').symm, .cons rfl (.cons rfl (.cons rfl (.cons rfl (.nil _)))), fun _ s => s⟩
  rintro j2 hj2
  try dsimp only at hj2 ⊢
  rw [← hj2] at f3 f4 f7
  refine .seq (.seq ((.region (.v (.move rfl) (.v (.move rfl) (.v (.gtr rfl rfl) (.nil ?_)))))))
  rw [Go.Sort.partEqLoop_eq, ← hi2, ← hj2] at hPL
  refine .cond_dec rfl (fun h3 => .exit ?_) (fun h3 => .skip ?_)
  · rw [if_pos (by omega)] at hPL
    subst hPL
    refine .seq ((.region (.v (.move rfl) (.v (.assign rfl) (.nil ?_)))))
    exact .ret ⟨[_], ⟨rfl, trivial⟩, l3, rfl, rfl, k3⟩
  · rw [if_neg (by omega)] at hPL
    have f8 := (f7 (by omega)).2.2
    refine .mid (X := Array Int × List Value) (fun _ => [(0, .slice (some ⟨b, o, none⟩) n c), (1, .int .i64 a), (9, .int .i64 ((i2 : Nat) : Int)), (10, .int .i64 ((j2 : Nat) : Int))]) (fun x => [(b, .cells x.2 25)]) (fun x => x.1 = swp d3 i2 j2 ∧ So32 b o c n x.1 x.2) ?_ ?_
    · have ks := k3.swp (i := i2) (j := j2) (by omega) (by omega)
      have q0 := fun hs' hsub => k3.at_ (w0 := w) (own := [b]) (hs := hs') (i := i2) (by omega) hsub
      have q1 := fun hs' hsub => k3.at_ (w0 := w) (own := [b]) (hs := hs') (i := j2) (by omega) hsub
      have hlen := k3.len
      have ex : ∃ d' : Array Int, d' = swp d3 i2 j2 := ⟨_, rfl⟩
      generalize d3[i2]! = x0 at q0 ks
      generalize d3[j2]! = x1 at q1 ks
      refine .drawY 13 [0, 1, 2, 3, 4, 5, 6, 7, 8, 9, 10, 11, 12, 13, 14, 15] [(b, .cells l3 25)] (fun _ h => h) (by kernel_rfl) (by kernel_rfl) ?_
      refine .x (fun _ _ _ => .move rfl) (.x (fun _ _ _ => .move rfl) (.x (fun _ _ _ => .move rfl) (.x (fun _ _ _ => .move rfl) (.x (fun _ _ _ => .move rfl) (.x (fun _ _ _ => .move rfl) (.x (fun _ _ _ => .indexN (j2) rfl rfl (by omega)) (.v (fun hs' f => .load (v := .int .u32 x1) rfl (q1 hs' f)) (.x (fun _ _ _ => .move rfl) (.x (fun _ _ _ => .move rfl) (.x (fun _ _ _ => .indexN (i2) rfl rfl (by omega)) (.v (fun hs' f => .load (v := .int .u32 x0) rfl (q0 hs' f)) (.x (fun _ _ _ => .indexN (i2) rfl rfl (by omega)) (.st (.store rfl rfl rfl (by omega)) (.x (fun _ _ _ => .indexN (j2) rfl rfl (by omega)) (.st2 (.store rfl rfl rfl (by rw [List.length_set]; omega)) (.nil ?_))))))))))))))))
      exact ⟨(swp d3 (i2) (j2), (l3.set (o + (i2)) (.int .u32 x1)).set (o + (j2)) (.int .u32 x0)), ⟨rfl, ks⟩, .cons rfl (.cons rfl (.cons rfl (.cons rfl (.nil _)))), fun _ s => s⟩
    rintro ⟨d4, l4⟩ ⟨hd4, kd4⟩
    try dsimp only at hd4 kd4 ⊢
    have zd4 := kd4.sz
    rw [← hd4] at hPL
    refine .seq ((.region (.v (.move rfl) (.v (.addE ((i2 + 1 : Nat) : Int) rfl rfl (by omega) (by omega)) (.v (.assign rfl) (.nil ?_))))))
    refine .region (.v (.move rfl) (.v (.subE ((j2 - 1 : Nat) : Int) rfl rfl (by omega) (by omega)) (.v (.assign rfl) (.nil ?_))))
    exact ⟨⟨i2 + 1, j2 - 1, d4, l4⟩, ⟨⟨by show a + 1 ≤ i2 + 1; omega, by show i2 + 1 ≤ j2 - 1 + 1; omega, by show j2 - 1 < e; omega⟩, kd4, hPL⟩, by show j2 - 1 + 1 - (i2 + 1) < j + 1 - i; omega, .cons rfl (.cons rfl (.cons rfl (.cons rfl (.nil _)))), fun _ s => s⟩
end Go.Proofs.Ytcbppikkoelimaa

/- slices.breakPatternsOrdered (loosely), partialInsertionSortOrdered at uint32 (printed by wip/gen/gen_pis.py). -/
namespace Go.Proofs.Ytcbppikkoelimaa
open Go.V
open Go.Sort (ltInt swp scanSorted shiftDown shiftUp fixDown fixUp partialIns partialInsertionSort PermIn)
set_option linter.unusedVariables false
set_option linter.unusedSimpArgs false
section
variable {d : Array Int} {i b : Nat}
theorem ss_go (h : i < b) (hp : (!ltInt d[i]! d[i - 1]!) = true) : scanSorted ltInt d b i = scanSorted ltInt d b (i + 1) := by rw [scanSorted, if_pos]; simp [h] at hp ⊢; exact hp
theorem ss_end (h : b ≤ i) : scanSorted ltInt d b i = i := by rw [scanSorted, if_neg]; simp; omega
theorem ss_stop (hp : (!ltInt d[i]! d[i - 1]!) = false) : scanSorted ltInt d b i = i := by rw [scanSorted, if_neg]; simp at hp; simp [hp]
end
structure BS where
  x : Int
  j : Nat
  d : Array Int
  l : List Value
set_option maxRecDepth 20000 in
theorem break32_ok (w : World) {b o c n : Nat} {d : Array Int} {l : List Value} (k : So32 b o c n d l) (a e : Nat) (hae : a ≤ e) (he : e ≤ n) (hn : n < 2305843009213693952) :
    Does Try.prog 89 [.slice (some ⟨b, o, none⟩) n c, .int .i64 a, .int .i64 e] [(b, .cells l 25)] w (fun _ hs => ∃ d' l', hs = [(b, .cells l' 25)] ∧ So32 b o c n d' l' ∧ PermIn a e d d') := by
  obtain ⟨h, rfl⟩ := Nat.exists_eq_add_of_le hae
  refine Does.less (Does.of (n := 65) Try.func89 rfl rfl rfl rfl ?_)
  refine .seq ((.region (.v (.move rfl) (.v (.move rfl) (.v (.subE (h : Int) rfl rfl (by omega) (by omega)) (.v (.assign rfl) (.nil ?_)))))))
  refine .seq ((.region (.v (.move rfl) (.v (.geq rfl rfl) (.nil ?_)))))
  refine .cond_dec rfl (fun h1 => ?_) (fun h1 => .skip ?_)
  case refine_2 => exact ⟨[], trivial, [(b, .cells l 25)], fun _ s => s.take, d, l, rfl, k, Go.Sort.permIn_refl d a (a + h)⟩
  refine .seq ((.region (.v (.move rfl) (.v (.convE (h : Int) rfl (wrap_u64_in (by omega))) (.nw .alloc fun b7 => (.st (.storeL rfl rfl rfl) (.nil ?_)))))))
  refine .keep [(b7, .cells [.int .u64 (h : Int)] 177), (b, .cells l 25)] ?_
  refine .seq ((.region (.v (.move rfl) ?_)))
  refine .ef (.call0 rfl rfl fun w s => nextPow_ok w h (by omega) (by omega)) ?_
  rintro _ _ ⟨_, ⟨mo, m1, m2, rfl, rfl⟩, rfl⟩
  refine .v (.assign rfl) (.nil ?_)
  obtain ⟨q, hq⟩ : ∃ q, h / 4 = q := ⟨_, rfl⟩
  have hq4 : (h : Int) / 4 = (q : Int) := by omega
  refine .seq ((.region (.v (.move rfl) (.v (.move rfl) (.v (.quoN q rfl rfl (by decide) hq4 (by omega) (by omega)) (.v (.muli rfl rfl (by omega)) (.v (.addE ((a + q * 2 : Nat) : Int) rfl rfl (by omega) (by omega)) (.v (.subE ((a + q * 2 - 1 : Nat) : Int) rfl rfl (by omega) (by omega)) (.v (.assign rfl) (.nil ?_))))))))))
  refine .block (.loop (X := BS) (fun x => [(0, .slice (some ⟨b, o, none⟩) n c), (1, .int .i64 a), (6, .int .i64 h), (7, .pointer (some ⟨b7, 0, none⟩)), (8, .int .u64 mo), (9, .int .i64 x.j)]) (fun x => [(b7, .cells [.int .u64 x.x] 177), (b, .cells x.l 25)]) (fun x => (a + q * 2 - 1 ≤ x.j ∧ x.j ≤ a + q * 2 + 2) ∧ So32 b o c n x.d x.l ∧ PermIn a (a + h) d x.d) (fun x => a + q * 2 + 2 - x.j) ⟨h, a + q * 2 - 1, d, l⟩ ⟨⟨Nat.le_refl _, by show a + q * 2 - 1 ≤ _; omega⟩, k, Go.Sort.permIn_refl d a (a + h)⟩ (.cons rfl (.cons rfl (.cons rfl (.cons rfl (.cons rfl (.cons rfl (.nil _))))))) (fun _ s => s) ?_)
  rintro ⟨x, j, d1, l1⟩ ⟨⟨hj1, hj2⟩, k1, hp⟩
  dsimp only at hj1 hj2 k1 hp ⊢
  refine .seq (.seq ((.region (.v (.move rfl) (.v (.move rfl) (.v (.move rfl) (.v (.quoN q rfl rfl (by decide) hq4 (by omega) (by omega)) (.v (.muli rfl rfl (by omega)) (.v (.addE ((a + q * 2 : Nat) : Int) rfl rfl (by omega) (by omega)) (.v (.addE ((a + q * 2 + 1 : Nat) : Int) rfl rfl (by omega) (by omega)) (.v (.leq rfl rfl) (.nil ?_))))))))))))
  refine .cond_dec rfl (fun h2 => .skip ?_) (fun h2 => .exit ?_)
  case refine_2 => exact ⟨[], trivial, [(b, .cells l1 25)], fun _ s => s.take, d1, l1, rfl, k1, hp⟩
  refine .seq (.block (.seq ((.region ?_))))
  refine .ef (.callT [(b7, .cells [.int .u64 x] 177)] rfl rfl fun w s => next_ok w b7 x) ?_
  rintro _ _ ⟨_, ⟨y, hy, rfl, rfl⟩, rfl⟩
  have hr := and_rng (y := y) (z := (mo : Int) - 1) (by omega) (by omega)
  obtain ⟨r, hr2⟩ : ∃ r : Nat, bop .and .u64 y ((mo : Int) - 1) = (r : Int) := ⟨(bop .and .u64 y ((mo : Int) - 1)).toNat, by omega⟩
  refine .v (.move rfl) (.v (.subU ((mo : Int) - 1) rfl rfl rfl (by omega)) (.v (.and rfl rfl) (.v (.convE (r : Int) rfl (by rw [hr2]; exact wrap_i64 (by omega))) (.v (.assign rfl) (.nil ?_)))))
  refine .mid (X := Nat) (fun t => [(0, .slice (some ⟨b, o, none⟩) n c), (1, .int .i64 a), (6, .int .i64 h), (7, .pointer (some ⟨b7, 0, none⟩)), (8, .int .u64 mo), (9, .int .i64 j), (10, .int .i64 t)]) (fun _ => [(b7, .cells [.int .u64 y] 177), (b, .cells l1 25)]) (fun t => t < h) (.seq ((.region (.v (.move rfl) (.v (.move rfl) (.v (.geq rfl rfl) (.nil ?_))))))) ?_
  · refine .cond_dec rfl (fun h3 => ?_) (fun h3 => .skip ?_)
    · refine .region (.v (.move rfl) (.v (.move rfl) (.v (.subE ((r - h : Nat) : Int) rfl rfl (by omega) (by omega)) (.v (.assign rfl) (.nil ?_)))))
      exact ⟨r - h, by omega, .cons rfl (.cons rfl (.cons rfl (.cons rfl (.cons rfl (.cons rfl (.cons rfl (.nil _))))))), fun _ s => s.take⟩
    · exact ⟨r, by omega, .cons rfl (.cons rfl (.cons rfl (.cons rfl (.cons rfl (.cons rfl (.cons rfl (.nil _))))))), fun _ s => s.take⟩
  rintro t ht
  try dsimp only at ht ⊢
  have k3 := k1.swp (i := j) (j := a + t) (by omega) (by omega)
  have p3 := Go.Sort.permIn_trans _ _ _ a (a + h) hp (Go.Sort.swp_permIn d1 a (a + h) j (a + t) (by omega) (by omega) (by omega) (by omega) (by rw [k1.sz]; exact he))
  have q0 := fun hs' hsub => k1.at_ (w0 := w) (own := [b]) (hs := hs') (i := j) (by omega) hsub
  have q1 := fun hs' hsub => k1.at_ (w0 := w) (own := [b]) (hs := hs') (i := a + t) (by omega) hsub
  have hlen := k1.len
  generalize hD : swp d1 j (a + t) = D at k3 p3
  generalize d1[j]! = x0 at q0 k3
  generalize d1[a + t]! = x1 at q1 k3
  refine .drawY 17 [0, 1, 2, 3, 4, 5, 6, 7, 8, 9, 10, 11, 12, 13, 14, 15, 16, 17, 18, 19] [(b, .cells l1 25)] (fun _ h => .tail _ h) (by kernel_rfl) (by kernel_rfl) ?_
  refine .x (fun _ _ _ => .move rfl) (.x (fun _ _ _ => .move rfl) (.x (fun _ _ _ => .move rfl) (.x (fun _ _ _ => .move rfl) (.x (fun _ _ _ => .move rfl) (.x (fun _ _ _ => .addE ((a + t : Nat) : Int) rfl rfl (by omega) (by omega)) (.x (fun _ _ _ => .move rfl) (.x (fun _ _ _ => .move rfl) (.x (fun _ _ _ => .move rfl) (.x (fun _ _ _ => .addE ((a + t : Nat) : Int) rfl rfl (by omega) (by omega)) (.x (fun _ _ _ => .indexN (a + t) rfl rfl (by omega)) (.v (fun hs' f => .load (v := .int .u32 x1) rfl (q1 hs' f)) (.x (fun _ _ _ => .move rfl) (.x (fun _ _ _ => .move rfl) (.x (fun _ _ _ => .indexN (j) rfl rfl (by omega)) (.v (fun hs' f => .load (v := .int .u32 x0) rfl (q0 hs' f)) (.x (fun _ _ _ => .indexN (j) rfl rfl (by omega)) (.st (.store rfl rfl rfl (by omega)) (.x (fun _ _ _ => .indexN (a + t) rfl rfl (by omega)) (.st2 (.store rfl rfl rfl (by rw [List.length_set]; omega)) (.nil ?_))))))))))))))))))))
  refine .region (.v (.move rfl) (.v (.addE ((j + 1 : Nat) : Int) rfl rfl (by omega) (by omega)) (.v (.assign rfl) (.nil ?_))))
  exact ⟨⟨y, j + 1, D, (l1.set (o + j) (.int .u32 x1)).set (o + (a + t)) (.int .u32 x0)⟩, ⟨⟨by show _ ≤ j + 1; omega, by show j + 1 ≤ _; omega⟩, k3, p3⟩, by show a + q * 2 + 2 - (j + 1) < a + q * 2 + 2 - j; omega, .cons rfl (.cons rfl (.cons rfl (.cons rfl (.cons rfl (.cons rfl (.nil _)))))), fun _ s => s.take⟩
structure IS where
  t : Nat
  i : Nat
  d : Array Int
  l : List Value
set_option maxRecDepth 20000 in
theorem partial32_ok (w : World) {b o c n : Nat} {d : Array Int} {l : List Value} (k : So32 b o c n d l) (a e : Nat) (hae : a < e) (he : e ≤ n) (hn : n < 2305843009213693952) :
    Does Try.prog 92 [.slice (some ⟨b, o, none⟩) n c, .int .i64 a, .int .i64 e] [(b, .cells l 25)] w (fun v hs => ∃ l', v = .bool (partialInsertionSort ltInt d a e).2 ∧ hs = [(b, .cells l' 25)] ∧ So32 b o c n (partialInsertionSort ltInt d a e).1 l') := by
  generalize hR : partialInsertionSort ltInt d a e = R
  replace hR : partialIns ltInt a e 5 (a + 1) d = R := hR
  refine Does.of (n := 133) Try.func92 rfl rfl rfl rfl ?_
  refine .seq ((.region (.v (.assign rfl) (.nil ?_))))
  refine .seq ((.region (.v (.move rfl) (.v (.addE ((a + 1 : Nat) : Int) rfl rfl (by omega) (by omega)) (.v (.assign rfl) (.nil ?_))))))
  refine .seq (.seq ((.region (.v (.assign rfl) (.nil ?_)))))
  refine (.block (.loop (X := IS) (fun x => [(0, .slice (some ⟨b, o, none⟩) n c), (1, .int .i64 a), (2, .int .i64 e), (7, .int .i64 x.i), (8, .int .i64 x.t)]) (fun x => [(b, .cells x.l 25)]) (fun x => (x.t ≤ 5 ∧ a + 1 ≤ x.i ∧ x.i ≤ e) ∧ So32 b o c n x.d x.l ∧ partialIns ltInt a e (5 - x.t) x.i x.d = R) (fun x => 5 - x.t) ⟨0, a + 1, d, l⟩ ⟨⟨by show 0 ≤ 5; omega, by show a + 1 ≤ a + 1; omega, by show a + 1 ≤ e; omega⟩, k, hR⟩ (.cons rfl (.cons rfl (.cons rfl (.cons rfl (.cons rfl (.nil _)))))) (fun _ s => s) ?_))
  clear hR k
  rintro ⟨t, i, d1, l1⟩ ⟨⟨ht, hi1, hi2⟩, k1, hR⟩
  dsimp only at ht hi1 hi2 k1 hR ⊢
  refine .seq (.seq ((.region (.v (.move rfl) (.v (.lss rfl rfl) (.nil ?_))))))
  refine .cond_dec rfl (fun g => .skip ?_) (fun g => .exit ?_)
  case refine_2 =>
    rw [show 5 - t = 0 by omega] at hR
    subst hR
    refine .seq ((.region (.v (.assign rfl) (.nil ?_))))
    exact .ret ⟨[_], ⟨rfl, trivial⟩, l1, rfl, rfl, k1⟩
  rw [show 5 - t = (5 - (t + 1)) + 1 by omega, Go.Sort.partialIns_succ] at hR
  refine .mid (X := IS) (fun x => [(0, .slice (some ⟨b, o, none⟩) n c), (1, .int .i64 a), (2, .int .i64 e), (7, .int .i64 x.i), (8, .int .i64 t)]) (fun x => [(b, .cells x.l 25)]) (fun x => (a + 1 ≤ x.i ∧ x.i ≤ e) ∧ So32 b o c n x.d x.l ∧ partialIns ltInt a e (5 - (t + 1)) x.i x.d = R) (.block ?_) ?_
  case refine_2 =>
    rintro ⟨_, i, d2, l2⟩ ⟨⟨hi1, hi2⟩, k2, hR⟩
    try dsimp only at hi1 hi2 k2 hR ⊢
    refine .region (.v (.move rfl) (.v (.addE ((t + 1 : Nat) : Int) rfl rfl (by omega) (by omega)) (.v (.assign rfl) (.nil ?_))))
    exact ⟨⟨t + 1, i, d2, l2⟩, ⟨⟨by show t + 1 ≤ 5; omega, hi1, hi2⟩, k2, hR⟩, by show 5 - (t + 1) < 5 - t; omega, .cons rfl (.cons rfl (.cons rfl (.cons rfl (.cons rfl (.nil _))))), fun _ s => s⟩
  refine .mid (X := Nat) (fun x => [(0, .slice (some ⟨b, o, none⟩) n c), (1, .int .i64 a), (2, .int .i64 e), (7, .int .i64 x), (8, .int .i64 t)]) (fun _ => [(b, .cells l1 25)]) (fun x => (i ≤ x ∧ x ≤ e) ∧ x = scanSorted ltInt d1 e i) (.block (.loop (X := Nat) (fun x => [(0, .slice (some ⟨b, o, none⟩) n c), (1, .int .i64 a), (2, .int .i64 e), (7, .int .i64 x), (8, .int .i64 t)]) (fun _ => [(b, .cells l1 25)]) (fun x => (i ≤ x ∧ x ≤ e) ∧ scanSorted ltInt d1 e x = scanSorted ltInt d1 e i) (fun x => e - x) i ⟨⟨Nat.le_refl _, hi2⟩, rfl⟩ (.cons rfl (.cons rfl (.cons rfl (.cons rfl (.cons rfl (.nil _)))))) (fun _ s => s) ?_)) ?_
  · rintro y ⟨⟨hy1, hy2⟩, h1⟩
    try dsimp only at hy1 hy2 h1 ⊢
    by_cases hg : y < e
    case neg =>
      refine .seq (.seq (.drawK [(b, .cells l1 25)] (fun _ h => h) (by kernel_rfl) (by kernel_rfl) ?_))
      refine .v (fun _ f => .move rfl) (.v (fun _ f => .move rfl) (.v (fun _ f => .no (.lss rfl rfl) (by omega)) (.v (fun _ f => .move rfl) (.and (b2 := true) 20 31 11 11 rfl rfl (fun g1 => absurd g1 (by simp)) (.nil ?_)))))
      refine .cond_false rfl (.exit ?_)
      rw [ss_end (by omega)] at h1
      exact ⟨y, ⟨⟨hy1, hy2⟩, h1⟩, .cons rfl (.cons rfl (.cons rfl (.cons rfl (.cons rfl (.nil _))))), fun _ s => s⟩
    have q0 := fun hs' hsub => k1.at_ (w0 := w) (own := [b]) (hs := hs') (i := y) (by omega) hsub
    have q1 := fun hs' hsub => k1.at_ (w0 := w) (own := [b]) (hs := hs') (i := y - 1) (by omega) hsub
    refine .seq (.seq (.drawK [(b, .cells l1 25)] (fun _ h => h) (by kernel_rfl) (by kernel_rfl) ?_))
    refine .v (fun _ f => .move rfl) (.v (fun _ f => .move rfl) (.v (fun _ f => .yes (.lss rfl rfl) (by omega)) (.v (fun _ f => .move rfl) (.and (b2 := !ltInt d1[y]! d1[y - 1]!) 20 31 11 11 rfl rfl (fun g1 => .v (fun _ f => .move rfl) (.v (fun _ f => .move rfl) (.v (fun _ f => .indexN (y) rfl rfl (by omega)) (.v (fun hs' f => .load (v := .int .u32 d1[y]!) rfl (q0 hs' f)) (.v (fun _ f => .move rfl) (.v (fun _ f => .move rfl) (.v (fun _ f => .subE ((y - 1 : Nat) : Int) rfl rfl (by omega) (by omega)) (.v (fun _ f => .indexN (y - 1) rfl rfl (by omega)) (.v (fun hs' f => .load (v := .int .u32 d1[y - 1]!) rfl (q1 hs' f)) (.pc rfl rfl (fun w s => less32_ok w _ _) (.v (fun _ f => .not rfl) (.nil ⟨rfl, rfl, rfl, rfl⟩)))))))))))) (.nil ?_)))))
    refine .cond rfl (fun g2 => .skip ?_) (fun g2 => .exit ?_)
    · have g2' : (!ltInt d1[y]! d1[y - 1]!) = true := by simpa using g2
      refine .block (.region (.v (.move rfl) (.v (.addE ((y + 1 : Nat) : Int) rfl rfl (by omega) (by omega)) (.v (.assign rfl) (.nil ?_)))))
      exact ⟨y + 1, ⟨⟨by omega, by omega⟩, by rw [← h1]; exact (ss_go hg g2').symm⟩, by omega, .cons rfl (.cons rfl (.cons rfl (.cons rfl (.cons rfl (.nil _))))), fun _ s => s⟩
    · have g2' : (!ltInt d1[y]! d1[y - 1]!) = false := by simpa using g2
      exact ⟨y, ⟨⟨hy1, hy2⟩, by rw [← h1]; exact (ss_stop g2').symm⟩, .cons rfl (.cons rfl (.cons rfl (.cons rfl (.cons rfl (.nil _))))), fun _ s => s⟩
  rintro i2 ⟨⟨f1, f2⟩, hi3⟩
  try dsimp only at f1 f2 hi3 ⊢
  rw [← hi3] at hR
  clear hi3
  refine .seq (.seq ((.region (.v (.move rfl) (.v (.move rfl) (.v (.eqi rfl rfl) (.nil ?_)))))))
  refine .cond_dec rfl (fun g3 => ?_) (fun g3 => .skip ?_)
  · rw [if_pos (by omega)] at hR
    subst hR
    refine .seq ((.region (.v (.assign rfl) (.nil ?_))))
    exact .ret ⟨[_], ⟨rfl, trivial⟩, l1, rfl, rfl, k1⟩
  rw [if_neg (by omega)] at hR
  refine .seq (.seq ((.region (.v (.move rfl) (.v (.move rfl) (.v (.subE ((e - a : Nat) : Int) rfl rfl (by omega) (by omega)) (.v (.lss rfl rfl) (.nil ?_))))))))
  refine .cond_dec rfl (fun g4 => ?_) (fun g4 => .skip ?_)
  · rw [if_pos (by omega)] at hR
    subst hR
    refine .seq ((.region (.v (.assign rfl) (.nil ?_))))
    exact .ret ⟨[_], ⟨rfl, trivial⟩, l1, rfl, rfl, k1⟩
  rw [if_neg (by omega)] at hR
  refine .mid (X := Array Int × List Value) (fun _ => [(0, .slice (some ⟨b, o, none⟩) n c), (1, .int .i64 a), (2, .int .i64 e), (7, .int .i64 i2), (8, .int .i64 t)]) (fun x => [(b, .cells x.2 25)]) (fun x => x.1 = swp d1 i2 (i2 - 1) ∧ So32 b o c n x.1 x.2) ?_ ?_
  ·
    have k3 := k1.swp (i := i2) (j := i2 - 1) (by omega) (by omega)
    have q0 := fun hs' hsub => k1.at_ (w0 := w) (own := [b]) (hs := hs') (i := i2 - 1) (by omega) hsub
    have q1 := fun hs' hsub => k1.at_ (w0 := w) (own := [b]) (hs := hs') (i := i2) (by omega) hsub
    have hlen := k1.len
    generalize d1[i2 - 1]! = x0 at q0 k3
    generalize d1[i2]! = x1 at q1 k3
    refine .drawY 15 [0, 1, 2, 3, 4, 5, 6, 7, 8, 9, 10, 11, 12, 13, 14, 15, 16, 17] [(b, .cells l1 25)] (fun _ h => h) (by kernel_rfl) (by kernel_rfl) ?_
    refine .x (fun _ _ _ => .move rfl) (.x (fun _ _ _ => .move rfl) (.x (fun _ _ _ => .move rfl) (.x (fun _ _ _ => .move rfl) (.x (fun _ _ _ => .subE ((i2 - 1 : Nat) : Int) rfl rfl (by omega) (by omega)) (.x (fun _ _ _ => .move rfl) (.x (fun _ _ _ => .move rfl) (.x (fun _ _ _ => .subE ((i2 - 1 : Nat) : Int) rfl rfl (by omega) (by omega)) (.x (fun _ _ _ => .indexN (i2 - 1) rfl rfl (by omega)) (.v (fun hs' f => .load (v := .int .u32 x0) rfl (q0 hs' f)) (.x (fun _ _ _ => .move rfl) (.x (fun _ _ _ => .move rfl) (.x (fun _ _ _ => .indexN (i2) rfl rfl (by omega)) (.v (fun hs' f => .load (v := .int .u32 x1) rfl (q1 hs' f)) (.x (fun _ _ _ => .indexN (i2) rfl rfl (by omega)) (.st (.store rfl rfl rfl (by omega)) (.x (fun _ _ _ => .indexN (i2 - 1) rfl rfl (by omega)) (.st2 (.store rfl rfl rfl (by rw [List.length_set]; omega)) (.nil ?_))))))))))))))))))
    exact ⟨(swp d1 i2 (i2 - 1), (l1.set (o + (i2)) (.int .u32 x0)).set (o + (i2 - 1)) (.int .u32 x1)), ⟨rfl, k3⟩, .cons rfl (.cons rfl (.cons rfl (.cons rfl (.cons rfl (.nil _))))), fun _ s => s⟩
  rintro ⟨d2, l2⟩ ⟨hd2, k2⟩
  try dsimp only at hd2 k2 ⊢
  rw [← hd2] at hR
  clear hd2 k1
  refine .mid (X := Array Int × List Value) (fun _ => [(0, .slice (some ⟨b, o, none⟩) n c), (1, .int .i64 a), (2, .int .i64 e), (7, .int .i64 i2), (8, .int .i64 t)]) (fun x => [(b, .cells x.2 25)]) (fun x => x.1 = fixDown ltInt a i2 d2 ∧ So32 b o c n x.1 x.2) (.seq ((.region (.v (.move rfl) (.v (.move rfl) (.v (.subE ((i2 - a : Nat) : Int) rfl rfl (by omega) (by omega)) (.v (.geq rfl rfl) (.nil ?_)))))))) ?_
  · refine .cond_dec rfl (fun g5 => ?_) (fun g5 => .skip ?_)
    case refine_2 =>
      have hf : d2 = fixDown ltInt a i2 d2 := by unfold fixDown; rw [if_neg (by omega)]
      exact ⟨(d2, l2), ⟨hf, k2⟩, .cons rfl (.cons rfl (.cons rfl (.cons rfl (.cons rfl (.nil _))))), fun _ s => s⟩
    have hf : fixDown ltInt a i2 d2 = shiftDown ltInt (i2 - 1) d2 := by unfold fixDown; rw [if_pos (by omega)]
    refine .seq ((.region (.v (.move rfl) (.v (.subE ((i2 - 1 : Nat) : Int) rfl rfl (by omega) (by omega)) (.v (.assign rfl) (.nil ?_))))))
    refine .block (.loop (X := SL) (fun x => [(0, .slice (some ⟨b, o, none⟩) n c), (1, .int .i64 a), (2, .int .i64 e), (7, .int .i64 i2), (8, .int .i64 t), (9, .int .i64 x.i)]) (fun x => [(b, .cells x.l 25)]) (fun x => x.i ≤ i2 - 1 ∧ So32 b o c n x.d x.l ∧ shiftDown ltInt x.i x.d = fixDown ltInt a i2 d2) (fun x => x.i) ⟨i2 - 1, d2, l2⟩ ⟨by show i2 - 1 ≤ i2 - 1; omega, k2, hf.symm⟩ (.cons rfl (.cons rfl (.cons rfl (.cons rfl (.cons rfl (.cons rfl (.nil _))))))) (fun _ s => s) ?_)
    clear hf
    rintro ⟨y, d5, l5⟩ ⟨hy, k5, h1⟩
    try dsimp only at hy k5 h1 ⊢
    refine .seq (.seq ((.region (.v (.move rfl) (.v (.geq rfl rfl) (.nil ?_))))))
    refine .cond_dec rfl (fun g6 => .skip ?_) (fun g6 => .exit ?_)
    case refine_2 =>
      have y0 : y = 0 := by omega
      subst y0
      rw [shiftDown] at h1
      exact ⟨(d5, l5), ⟨h1, k5⟩, .cons rfl (.cons rfl (.cons rfl (.cons rfl (.cons rfl (.nil _))))), fun _ s => s⟩
    obtain ⟨y, rfl⟩ : ∃ y', y = y' + 1 := ⟨y - 1, by omega⟩
    rw [shiftDown] at h1
    have q0 := fun hs' hsub => k5.at_ (w0 := w) (own := [b]) (hs := hs') (i := y + 1) (by omega) hsub
    have q1 := fun hs' hsub => k5.at_ (w0 := w) (own := [b]) (hs := hs') (i := y) (by omega) hsub
    refine .seq (.block (.seq (.seq (.drawK [(b, .cells l5 25)] (fun _ h => h) (by kernel_rfl) (by kernel_rfl) ?_))))
    refine .v (fun _ f => .move rfl) (.v (fun _ f => .move rfl) (.v (fun _ f => .indexN (y + 1) rfl rfl (by omega)) (.v (fun hs' f => .load (v := .int .u32 d5[y + 1]!) rfl (q0 hs' f)) (.v (fun _ f => .move rfl) (.v (fun _ f => .move rfl) (.v (fun _ f => .subE ((y : Nat) : Int) rfl rfl (by omega) (by omega)) (.v (fun _ f => .indexN (y) rfl rfl (by omega)) (.v (fun hs' f => .load (v := .int .u32 d5[y]!) rfl (q1 hs' f)) (.pc rfl rfl (fun w s => less32_ok w _ _) (.v (fun _ f => .not rfl) (.nil ?_)))))))))))
    refine .cond rfl (fun g2 => .exit ?_) (fun g2 => .skip ?_)
    · rw [if_pos (by simpa using g2)] at h1
      exact ⟨(d5, l5), ⟨h1, k5⟩, .cons rfl (.cons rfl (.cons rfl (.cons rfl (.cons rfl (.nil _))))), fun _ s => s⟩
    rw [if_neg (by simpa using g2)] at h1
    clear q0 q1
    have k6 := k5.swp (i := y + 1) (j := y) (by omega) (by omega)
    have q0 := fun hs' hsub => k5.at_ (w0 := w) (own := [b]) (hs := hs') (i := y) (by omega) hsub
    have q1 := fun hs' hsub => k5.at_ (w0 := w) (own := [b]) (hs := hs') (i := y + 1) (by omega) hsub
    have hlen := k5.len
    generalize hD : swp d5 (y + 1) y = D at k6 h1
    generalize d5[y]! = x0 at q0 k6
    generalize d5[y + 1]! = x1 at q1 k6
    refine .drawY 15 [0, 1, 2, 3, 4, 5, 6, 7, 8, 9, 10, 11, 12, 13, 14, 15, 16, 17] [(b, .cells l5 25)] (fun _ h => h) (by kernel_rfl) (by kernel_rfl) ?_
    refine .x (fun _ _ _ => .move rfl) (.x (fun _ _ _ => .move rfl) (.x (fun _ _ _ => .move rfl) (.x (fun _ _ _ => .move rfl) (.x (fun _ _ _ => .subE ((y : Nat) : Int) rfl rfl (by omega) (by omega)) (.x (fun _ _ _ => .move rfl) (.x (fun _ _ _ => .move rfl) (.x (fun _ _ _ => .subE ((y : Nat) : Int) rfl rfl (by omega) (by omega)) (.x (fun _ _ _ => .indexN (y) rfl rfl (by omega)) (.v (fun hs' f => .load (v := .int .u32 x0) rfl (q0 hs' f)) (.x (fun _ _ _ => .move rfl) (.x (fun _ _ _ => .move rfl) (.x (fun _ _ _ => .indexN (y + 1) rfl rfl (by omega)) (.v (fun hs' f => .load (v := .int .u32 x1) rfl (q1 hs' f)) (.x (fun _ _ _ => .indexN (y + 1) rfl rfl (by omega)) (.st (.store rfl rfl rfl (by omega)) (.x (fun _ _ _ => .indexN (y) rfl rfl (by omega)) (.st2 (.store rfl rfl rfl (by rw [List.length_set]; omega)) (.nil ?_))))))))))))))))))
    refine .region (.v (.move rfl) (.v (.subE ((y : Nat) : Int) rfl rfl (by omega) (by omega)) (.v (.assign rfl) (.nil ?_))))
    exact ⟨⟨y, D, (l5.set (o + (y + 1)) (.int .u32 x0)).set (o + (y)) (.int .u32 x1)⟩, ⟨by show y ≤ i2 - 1; omega, k6, h1⟩, by show y < y + 1; omega, .cons rfl (.cons rfl (.cons rfl (.cons rfl (.cons rfl (.cons rfl (.nil _)))))), fun _ s => s⟩
  rintro ⟨d3, l3⟩ ⟨hd3, k3⟩
  try dsimp only at hd3 k3 ⊢
  rw [← hd3] at hR
  clear hd3 k2
  refine .seq ((.region (.v (.move rfl) (.v (.move rfl) (.v (.subE ((e - i2 : Nat) : Int) rfl rfl (by omega) (by omega)) (.v (.geq rfl rfl) (.nil ?_)))))))
  refine .cond_dec rfl (fun g5 => ?_) (fun g5 => .skip ?_)
  case refine_2 =>
    have hf : d3 = fixUp ltInt e i2 d3 := by unfold fixUp; rw [if_neg (by omega)]
    exact ⟨⟨0, i2, d3, l3⟩, ⟨⟨by show a + 1 ≤ i2; omega, f2⟩, k3, by show partialIns ltInt a e (5 - (t + 1)) i2 d3 = R; rw [← hR]; exact congrArg _ (hf)⟩, .cons rfl (.cons rfl (.cons rfl (.cons rfl (.cons rfl (.nil _))))), fun _ s => s⟩
  have hf : fixUp ltInt e i2 d3 = shiftUp ltInt e (i2 + 1) d3 := by unfold fixUp; rw [if_pos (by omega)]
  refine .seq ((.region (.v (.move rfl) (.v (.addE ((i2 + 1 : Nat) : Int) rfl rfl (by omega) (by omega)) (.v (.assign rfl) (.nil ?_))))))
  refine .block (.loop (X := SL) (fun x => [(0, .slice (some ⟨b, o, none⟩) n c), (1, .int .i64 a), (2, .int .i64 e), (7, .int .i64 i2), (8, .int .i64 t), (10, .int .i64 x.i)]) (fun x => [(b, .cells x.l 25)]) (fun x => (i2 + 1 ≤ x.i ∧ x.i ≤ e) ∧ So32 b o c n x.d x.l ∧ shiftUp ltInt e x.i x.d = fixUp ltInt e i2 d3) (fun x => e - x.i) ⟨i2 + 1, d3, l3⟩ ⟨⟨by show i2 + 1 ≤ i2 + 1; omega, by show i2 + 1 ≤ e; omega⟩, k3, hf.symm⟩ (.cons rfl (.cons rfl (.cons rfl (.cons rfl (.cons rfl (.cons rfl (.nil _))))))) (fun _ s => s) ?_)
  clear hf
  rintro ⟨y, d5, l5⟩ ⟨⟨hy1, hy2⟩, k5, h1⟩
  try dsimp only at hy1 hy2 k5 h1 ⊢
  refine .seq (.seq ((.region (.v (.move rfl) (.v (.move rfl) (.v (.lss rfl rfl) (.nil ?_)))))))
  refine .cond_dec rfl (fun g6 => .skip ?_) (fun g6 => .exit ?_)
  case refine_2 =>
    rw [shiftUp, if_neg (by omega)] at h1
    exact ⟨⟨0, i2, d5, l5⟩, ⟨⟨by show a + 1 ≤ i2; omega, f2⟩, k5, by show partialIns ltInt a e (5 - (t + 1)) i2 d5 = R; rw [← hR]; exact congrArg _ (h1)⟩, .cons rfl (.cons rfl (.cons rfl (.cons rfl (.cons rfl (.nil _))))), fun _ s => s⟩
  rw [shiftUp, if_pos (by omega)] at h1
  have q0 := fun hs' hsub => k5.at_ (w0 := w) (own := [b]) (hs := hs') (i := y) (by omega) hsub
  have q1 := fun hs' hsub => k5.at_ (w0 := w) (own := [b]) (hs := hs') (i := y - 1) (by omega) hsub
  refine .seq (.block (.seq (.seq (.drawK [(b, .cells l5 25)] (fun _ h => h) (by kernel_rfl) (by kernel_rfl) ?_))))
  refine .v (fun _ f => .move rfl) (.v (fun _ f => .move rfl) (.v (fun _ f => .indexN (y) rfl rfl (by omega)) (.v (fun hs' f => .load (v := .int .u32 d5[y]!) rfl (q0 hs' f)) (.v (fun _ f => .move rfl) (.v (fun _ f => .move rfl) (.v (fun _ f => .subE ((y - 1 : Nat) : Int) rfl rfl (by omega) (by omega)) (.v (fun _ f => .indexN (y - 1) rfl rfl (by omega)) (.v (fun hs' f => .load (v := .int .u32 d5[y - 1]!) rfl (q1 hs' f)) (.pc rfl rfl (fun w s => less32_ok w _ _) (.v (fun _ f => .not rfl) (.nil ?_)))))))))))
  refine .cond rfl (fun g2 => .exit ?_) (fun g2 => .skip ?_)
  · rw [if_pos (by simpa using g2)] at h1
    exact ⟨⟨0, i2, d5, l5⟩, ⟨⟨by show a + 1 ≤ i2; omega, f2⟩, k5, by show partialIns ltInt a e (5 - (t + 1)) i2 d5 = R; rw [← hR]; exact congrArg _ (h1)⟩, .cons rfl (.cons rfl (.cons rfl (.cons rfl (.cons rfl (.nil _))))), fun _ s => s⟩
  rw [if_neg (by simpa using g2)] at h1
  clear q0 q1
  have k6 := k5.swp (i := y) (j := y - 1) (by omega) (by omega)
  have q0 := fun hs' hsub => k5.at_ (w0 := w) (own := [b]) (hs := hs') (i := y - 1) (by omega) hsub
  have q1 := fun hs' hsub => k5.at_ (w0 := w) (own := [b]) (hs := hs') (i := y) (by omega) hsub
  have hlen := k5.len
  generalize hD : swp d5 (y) (y - 1) = D at k6 h1
  generalize d5[y - 1]! = x0 at q0 k6
  generalize d5[y]! = x1 at q1 k6
  refine .drawY 15 [0, 1, 2, 3, 4, 5, 6, 7, 8, 9, 10, 11, 12, 13, 14, 15, 16, 17] [(b, .cells l5 25)] (fun _ h => h) (by kernel_rfl) (by kernel_rfl) ?_
  refine .x (fun _ _ _ => .move rfl) (.x (fun _ _ _ => .move rfl) (.x (fun _ _ _ => .move rfl) (.x (fun _ _ _ => .move rfl) (.x (fun _ _ _ => .subE ((y - 1 : Nat) : Int) rfl rfl (by omega) (by omega)) (.x (fun _ _ _ => .move rfl) (.x (fun _ _ _ => .move rfl) (.x (fun _ _ _ => .subE ((y - 1 : Nat) : Int) rfl rfl (by omega) (by omega)) (.x (fun _ _ _ => .indexN (y - 1) rfl rfl (by omega)) (.v (fun hs' f => .load (v := .int .u32 x0) rfl (q0 hs' f)) (.x (fun _ _ _ => .move rfl) (.x (fun _ _ _ => .move rfl) (.x (fun _ _ _ => .indexN (y) rfl rfl (by omega)) (.v (fun hs' f => .load (v := .int .u32 x1) rfl (q1 hs' f)) (.x (fun _ _ _ => .indexN (y) rfl rfl (by omega)) (.st (.store rfl rfl rfl (by omega)) (.x (fun _ _ _ => .indexN (y - 1) rfl rfl (by omega)) (.st2 (.store rfl rfl rfl (by rw [List.length_set]; omega)) (.nil ?_))))))))))))))))))
  refine .region (.v (.move rfl) (.v (.addE ((y + 1 : Nat) : Int) rfl rfl (by omega) (by omega)) (.v (.assign rfl) (.nil ?_))))
  exact ⟨⟨y + 1, D, (l5.set (o + (y)) (.int .u32 x0)).set (o + (y - 1)) (.int .u32 x1)⟩, ⟨⟨by show i2 + 1 ≤ y + 1; omega, by show y + 1 ≤ e; omega⟩, k6, h1⟩, by show e - (y + 1) < e - y; omega, .cons rfl (.cons rfl (.cons rfl (.cons rfl (.cons rfl (.cons rfl (.nil _)))))), fun _ s => s⟩
end Go.Proofs.Ytcbppikkoelimaa
