/- Plain: an FOK looks ahead as an IOC goes. -/
import Derived.Test.YtmfobfamdaajmaaMG
namespace Go.Proofs.Ytmfobfamdaajmaa
open Go.V
set_option linter.unusedVariables false
set_option linter.unusedSimpArgs false

/-- a command as a New of a kind -/
def Cm.kd (c : Cm) (ty : Int) : Cm := ⟨1, c.id, c.tg, c.mb, c.sd, ty, c.pr, c.q, c.pk⟩
theorem kd_why {B : Bk} {c : Cm} : B.why (c.kd 4) = B.why (c.kd 3) := by
  have e1 : (c.kd 4).chk = (c.kd 3).chk := by
    unfold Cm.kd Cm.chk chk szd; simp
  have e2 : B.tgt (c.kd 4) = B.tgt (c.kd 3) := rfl
  have e3 : B.at_ (c.kd 4) = B.at_ (c.kd 3) := rfl
  have f1 : ∀ x : Int, (c.kd x).k = 1 := fun _ => rfl
  have f2 : ∀ x : Int, (newTk (c.kd x)).kind = x := fun _ => rfl
  have f3 : ∀ x : Int, (c.kd x).id = c.id := fun _ => rfl
  unfold Bk.why rfs
  rw [cmg_new _ _ (f1 4), cmg_new _ _ (f1 3), e1, e2, f2, f2, f1, f1, f3, f3]
  simp
structure WholeOk (q : Int) (x y : List Ev) : Prop where
  ok : ∃ xe xr ye yr, x = xe :: xr ∧ y = ye :: yr ∧ xe.kind = ye.kind ∧ xe.code = ye.code ∧ (ye.kind = 2 ∨ ye.kind ≠ 2 ∧ (tsum y ≠ q ∧ (∃ e, xr = [e] ∧ e.kind = 4 ∧ e.q = q ∧ e.reason = 4) ∨ tsum y = q ∧ xr = yr))
theorem does_whole {B : Bk} {c : Cm} (h : B.Vl) (hw : c.wf) : WholeOk c.q (B.does (c.kd 4)).2 (B.does (c.kd 3)).2 := by
  by_cases h0 : B.why (c.kd 3) = 0
  case neg =>
    rw [does_no h0, does_no (B := B) (c := c.kd 4) (by rw [kd_why]; exact h0), kd_why]
    exact ⟨_, _, _, _, rfl, rfl, rfl, rfl, .inl rfl⟩
  have h0' : B.why (c.kd 4) = 0 := by rw [kd_why]; exact h0
  rw [does_new h0 rfl, does_new h0' rfl]
  have hw3 : (c.kd 3).wf := hw
  obtain ⟨z1, z2, z3, z4, z5⟩ := rfs_zero h0
  obtain ⟨s1, s2, s3, s4, s5, s6, s7, s8⟩ := chk_sized z2 (by show (1 : Int) ≠ 2; decide) hw3
  obtain ⟨hV, hlt⟩ := cmg_V h hw3 h0 (by show (1 : Int) ≠ 2; decide)
  have hg : B.goes (c.kd 3) = B := by unfold Bk.goes; rw [if_neg (by show ¬ (1 : Int) ≠ 1; simp)]
  rw [hg, cmg_new _ _ rfl] at hV
  rw [cmg_new _ _ rfl] at hlt
  have hB0 : ((B.num (nx B.seq)).top c.id).Vl := top_vl (num_vl _ h) (Int.le_of_lt hlt)
  have hV : (newTk (c.kd 3)).V ((B.num (nx B.seq)).top c.id) := hV
  show WholeOk c.q (Bk.comes ((B.num (nx B.seq)).top c.id) [(evAck (newTk (c.kd 4))).num (nx B.seq)] (newTk (c.kd 4))).2 (Bk.comes ((B.num (nx B.seq)).top c.id) [(evAck (newTk (c.kd 3))).num (nx B.seq)] (newTk (c.kd 3))).2
  generalize (B.num (nx B.seq)).top c.id = B0 at *
  have ha4 : ((evAck (newTk (c.kd 4))).num (nx B.seq)).kind = 1 := rfl
  have ha3 : ((evAck (newTk (c.kd 3))).num (nx B.seq)).kind = 1 := rfl
  have hc4 : ((evAck (newTk (c.kd 4))).num (nx B.seq)).code = 0 := rfl
  have hc3 : ((evAck (newTk (c.kd 3))).num (nx B.seq)).code = 0 := rfl
  generalize (evAck (newTk (c.kd 4))).num (nx B.seq) = a4 at *
  generalize (evAck (newTk (c.kd 3))).num (nx B.seq) = a3 at *
  have hOk0 := ts_ok' (evs := []) hB0 hV
  have hrun0 := tr_run (meet := B0.meet) (t := newTk (c.kd 3)) hOk0
  have e0 : B0.ts [] (newTk (c.kd 4)) = B0.ts [] (newTk (c.kd 3)) := rfl
  have e4 : B0.ts [a4] (newTk (c.kd 4)) = (B0.ts [] (newTk (c.kd 3))).pre [a4] := rfl
  have e3 : B0.ts [a3] (newTk (c.kd 3)) = (B0.ts [] (newTk (c.kd 3))).pre [a3] := rfl
  have hk : tr B0.meet (newTk (c.kd 4)) (B0.ts [] (newTk (c.kd 3))) = tr B0.meet (newTk (c.kd 3)) (B0.ts [] (newTk (c.kd 3))) :=
    ((hrun0.kind (t2 := newTk (c.kd 4)) rfl rfl rfl rfl (by show (3 : Int) = 2 ↔ (4 : Int) = 2; decide)).eq hOk0).symm
  obtain ⟨y1, y2⟩ := hrun0.sum hOk0 (by show 0 ≤ tsum []; decide) (by show c.q + tsum [] ≤ _; rw [tsum_nil]; have : c.q ≤ 4294967295 := s2; omega)
  obtain ⟨zok, zlen, _, zl⟩ := hrun0.ok hOk0
  have hq : (B0.ts [] (newTk (c.kd 3))).left + tsum (B0.ts [] (newTk (c.kd 3))).evs = c.q := by show c.q + tsum [] = c.q; rw [tsum_nil]; omega
  rw [hq] at y2
  have hlo := zok.lo
  unfold Bk.comes
  rw [e0, e4, e3, tr_pre _ hOk0, tr_pre _ hOk0, hk]
  generalize tr B0.meet (newTk (c.kd 3)) (B0.ts [] (newTk (c.kd 3))) = z at *
  have hq4 : (newTk (c.kd 4)).left = c.q := rfl
  have k4 : (newTk (c.kd 4)).kind = 4 := rfl
  have k3 : (newTk (c.kd 3)).kind = 3 := rfl
  simp only [k4, k3, hq4]
  rw [if_neg (show ¬ ((3 : Int) = 4 ∧ tsum z.evs ≠ (newTk (c.kd 3)).left) from fun e => by have := e.1; omega)]
  by_cases hs : tsum z.evs = c.q
  · have hl : z.left = 0 := by omega
    have hl' : ∀ p, (z.pre p).left = 0 := fun p => hl
    rw [if_neg (fun e => e.2 hs), if_pos (hl' _), if_pos (hl' _)]
    refine ⟨a4, z.evs, a3, z.evs, rfl, rfl, by omega, by omega, .inr ⟨by omega, .inr ⟨?_, rfl⟩⟩⟩
    show tsum (a3 :: z.evs) = c.q
    rw [tsum_cons _ (by omega)]; exact hs
  · rw [if_pos ⟨trivial, hs⟩]
    split
    · refine ⟨a4, _, a3, z.evs, rfl, rfl, by omega, by omega, .inr ⟨by omega, .inl ⟨?_, _, rfl, rfl, rfl, rfl⟩⟩⟩
      show tsum (a3 :: z.evs) ≠ c.q
      rw [tsum_cons _ (by omega)]; exact hs
    · rw [if_pos (by omega)]
      refine ⟨a4, _, a3, _, rfl, rfl, by omega, by omega, .inr ⟨by omega, .inl ⟨?_, _, rfl, rfl, rfl, rfl⟩⟩⟩
      rw [tsum_snoc, if_neg (by show ¬ (4 : Int) = 3; decide)]
      show tsum (a3 :: z.evs) ≠ c.q
      rw [tsum_cons _ (by omega)]; exact hs
end Go.Proofs.Ytmfobfamdaajmaa
