/- Texts that the row RRiskLimits stands on: QInv, QVl, RKBookP, RKBookP2, RKLimP, QNumbers, QSound, RKLimL, VN, VT, VB, KBulk, QRead, QReadC, RKRd, RKRdRun. -/
import Derived.Test.YtfajjkolhajldaaYRiskLimitsE
import Derived.Test.YtfajjkolhajldaaYRiskLimitsB
import Derived.Test.YtfajjkolhajldaaYRiskLimitsC
import Derived.Test.YtfajjkolhajldaaYRiskLimitsA
import Derived.SizedLaws
import Derived.Test.YtfajjkolhajldaaRows
/- Plain: what a book keeps, whatever it is told; the numbers of its events. -/
namespace Go.Proofs.Ytfajjkolhajldaa
open Go.V
set_option linter.unusedVariables false
set_option linter.unusedSimpArgs false

structure Bk.Inv (B : Bk) : Prop where
  lo : 1 ≤ B.cap
  hi : B.cap ≤ 4096
  len : (B.bs.length : Int) + B.ss.length ≤ B.cap
  good : ∀ o ∈ B.bs ++ B.ss, o.G
theorem Bk.Inv.ok {B : Bk} (h : B.Inv) : B.Ok := ⟨h.good, by have := h.len; have := h.hi; omega⟩
theorem newB_inv {c m : Int} (h : Cfg c m) : (newB c m).Inv := ⟨h.1, h.2.1, by simp [newB]; unfold Cfg at h; omega, by simp [newB]⟩
/-- a command's numbers are in their kinds -/
def Cm.wf (c : Cm) : Prop := U c.id ∧ U c.q ∧ U c.pk
theorem chk_sized {c : Cm} (h : c.chk = 0) (hk : c.k ≠ 2) (hw : c.wf) : 1 ≤ c.q ∧ c.q ≤ 4294967295 ∧ c.pk ≤ c.q ∧ (c.pk = 0 ∨ c.q ≤ 256 * c.pk) ∧ 0 ≤ c.pr ∧ c.pr < 262144 ∧ c.id ≠ 0 ∧ (c.k = 1 → 1 ≤ c.ty ∧ c.ty ≤ 5 ∧ (c.pk ≠ 0 → c.ty = 1 ∨ c.ty = 5) ∧ (c.ty = 2 → c.pr = 0)) := by
  obtain ⟨w1, w2, w3⟩ := hw
  unfold U at w1 w2 w3
  have key : ∀ ty : Int, szd c.id c.pr c.q c.pk ty = 0 → 1 ≤ c.q ∧ c.q ≤ 4294967295 ∧ c.pk ≤ c.q ∧ (c.pk = 0 ∨ c.q ≤ 256 * c.pk) ∧ 0 ≤ c.pr ∧ c.pr < 262144 ∧ c.id ≠ 0 ∧ (c.pk ≠ 0 → ty = 1 ∨ ty = 5) ∧ (ty = 2 → c.pr = 0) := by
    intro ty hs
    unfold szd at hs
    by_cases a1 : c.pr < 0 ∨ 262144 ≤ c.pr ∨ ty = 2 ∧ c.pr ≠ 0
    · rw [if_pos a1] at hs; omega
    rw [if_neg a1] at hs
    by_cases a2 : c.q < 1 ∨ 4294967295 < c.q
    · rw [if_pos a2] at hs; omega
    rw [if_neg a2] at hs
    by_cases a3 : c.q < c.pk ∨ c.pk ≠ 0 ∧ (¬ (ty = 1 ∨ ty = 5) ∨ IntKind.u64.wrap (256 * c.pk) < c.q)
    · rw [if_pos a3] at hs; omega
    rw [if_neg a3] at hs
    by_cases a4 : c.id = 0
    · rw [if_pos a4] at hs; omega
    have hw : IntKind.u64.wrap (256 * c.pk) = 256 * c.pk := wrap_u64_in (by omega)
    rw [hw] at a3
    refine ⟨by omega, by omega, by omega, by omega, by omega, by omega, a4, by omega, by omega⟩
  unfold Cm.chk chk at h
  by_cases h1 : c.k = 1
  · rw [if_pos h1] at h
    by_cases h2 : c.sd ≠ 1 ∧ c.sd ≠ 2
    · rw [if_pos h2] at h; omega
    rw [if_neg h2] at h
    by_cases h3 : c.ty < 1 ∨ 5 < c.ty
    · rw [if_pos h3] at h; omega
    rw [if_neg h3] at h
    obtain ⟨k1, k2, k3, k4, k5, k6, k7, k8, k9⟩ := key _ h
    exact ⟨k1, k2, k3, k4, k5, k6, k7, fun _ => ⟨by omega, by omega, k8, k9⟩⟩
  · rw [if_neg h1] at h
    by_cases h3 : c.k = 3
    · rw [if_pos h3] at h
      obtain ⟨k1, k2, k3, k4, k5, k6, k7, k8, k9⟩ := key _ h
      exact ⟨k1, k2, k3, k4, k5, k6, k7, fun e => absurd e h1⟩
    · rw [if_neg h3, if_neg hk] at h; omega
theorem restOf_G {o : Ord} {left q : Int} (h0 : left ≠ 0) (h1 : 0 ≤ left) (h2 : left ≤ q) (h3 : q ≤ 4294967295) (h4 : o.pk ≤ q) (h5 : 0 ≤ o.pk) (h6 : o.pk = 0 ∨ q ≤ 256 * o.pk) : (restOf o left).G := by
  unfold restOf Ord.G
  simp only
  split <;> omega
theorem Bk.put_len {B : Bk} {s : Int} {l : List Ord} (h : l.length ≤ (B.side s).length) : (B.put s l).bs.length ≤ B.bs.length ∧ (B.put s l).ss.length ≤ B.ss.length := by
  unfold Bk.put Bk.side at *
  split at h <;> rename_i e
  · rw [if_pos e]; exact ⟨h, Nat.le_refl _⟩
  · rw [if_neg e]; exact ⟨Nat.le_refl _, h⟩
theorem Bk.put_len1 {B : Bk} {s : Int} {l : List Ord} (h : l.length = (B.side s).length + 1) : (B.put s l).bs.length + (B.put s l).ss.length = B.bs.length + B.ss.length + 1 := by
  unfold Bk.put Bk.side at *
  split at h <;> rename_i e
  · rw [if_pos e]; simp only; omega
  · rw [if_neg e]; simp only; omega
theorem Bk.put_cap (B : Bk) (s : Int) (l : List Ord) : (B.put s l).cap = B.cap ∧ (B.put s l).meet = B.meet ∧ (B.put s l).high = B.high ∧ (B.put s l).seq = B.seq := by
  unfold Bk.put; split <;> exact ⟨rfl, rfl, rfl, rfl⟩
theorem traded_inv {B : Bk} {t : Tk} {z : TS} (h : B.Inv) (hz : z.Ok) (hl : z.L.length ≤ (B.side (3 - t.side)).length) : (B.traded t z).Inv ∧ (B.traded t z).bs.length + (B.traded t z).ss.length ≤ B.bs.length + B.ss.length := by
  have hp := Bk.put_len hl
  have hc := B.put_cap (3 - t.side) z.L
  have e1 : (B.traded t z).bs = (B.put (3 - t.side) z.L).bs := rfl
  have e2 : (B.traded t z).ss = (B.put (3 - t.side) z.L).ss := rfl
  have e3 : (B.traded t z).cap = (B.put (3 - t.side) z.L).cap := rfl
  refine ⟨⟨by rw [e3, hc.1]; exact h.lo, by rw [e3, hc.1]; exact h.hi, ?_, fun o ho => ?_⟩, by rw [e1, e2]; omega⟩
  · have := h.len
    rw [e1, e2, e3, hc.1]; omega
  · rcases Bk.put_mem (B := B) (s := 3 - t.side) (l := z.L) ho with h1 | h1
    · exact hz.good o h1
    · exact h.good o h1
theorem num_inv {B : Bk} (q : Int) (h : B.Inv) : (B.num q).Inv := ⟨h.lo, h.hi, h.len, h.good⟩
theorem top_inv {B : Bk} (q : Int) (h : B.Inv) : (B.top q).Inv := ⟨h.lo, h.hi, h.len, h.good⟩
theorem ts_ok {B : Bk} {evs : List Ev} {t : Tk} (h : ∀ o ∈ B.bs ++ B.ss, o.G) (h1 : 0 ≤ t.left) (h2 : t.left ≤ 18446744073709551615) : (B.ts evs t).Ok := ⟨fun o ho => h o (B.side_sub _ o ho), h1, h2⟩
theorem comes_inv {B : Bk} {evs : List Ev} {t : Tk} (h : B.Inv) (hq : 0 ≤ t.left ∧ t.left ≤ 4294967295) (hp : 0 ≤ t.o.pk ∧ t.o.pk ≤ t.left) (hp2 : t.o.pk = 0 ∨ t.left ≤ 256 * t.o.pk) (hroom : t.kind = 1 ∨ t.kind = 5 → (B.bs.length : Int) + B.ss.length < B.cap) : (B.comes evs t).1.Inv := by
  have hOk : (B.ts evs t).Ok := ts_ok h.good hq.1 (by omega)
  obtain ⟨zok, zlen, _, zl⟩ := (tr_run (meet := B.meet) (t := t) hOk).ok hOk
  unfold Bk.comes
  split
  · exact num_inv _ h
  · simp only
    generalize tr B.meet t (B.ts evs t) = z at *
    obtain ⟨hT, hTl⟩ := traded_inv (t := t) h zok zlen
    split
    · exact hT
    · rename_i hl0
      split
      · exact num_inv _ hT
      · rename_i hk
        have hcap : (B.traded t z).cap = B.cap := (B.put_cap _ _).1
        generalize B.traded t z = B1 at *
        have hlo := zok.lo
        have hzl : z.left ≤ t.left := zl
        have hG := restOf_G (o := t.o) (left := z.left) (q := t.left) hl0 hlo hzl hq.2 hp.2 hp.1 hp2
        have hlen := Bk.put_len1 (B := B1) (s := t.side) (l := rst t.side (restOf t.o z.left) (B1.side t.side)) (rst_length _ _ _)
        have hc := B1.put_cap t.side (rst t.side (restOf t.o z.left) (B1.side t.side))
        have hr := hroom (by omega)
        show (B1.put t.side (rst t.side (restOf t.o z.left) (B1.side t.side))).Inv
        refine ⟨by rw [hc.1]; exact hT.lo, by rw [hc.1]; exact hT.hi, by rw [hc.1, hcap]; omega, fun o ho => ?_⟩
        rcases Bk.put_mem ho with h1 | h1
        · rcases rst_mem h1 with rfl | h1
          · exact hG
          · exact hT.good o (B1.side_sub _ o h1)
        · exact hT.good o h1
theorem goes_len1 {B : Bk} {c : Cm} (hk : c.k ≠ 1) (ht : B.tgt c ≠ none) : (B.goes c).bs.length + (B.goes c).ss.length + 1 = B.bs.length + B.ss.length := by
  rcases at_spec B c with ⟨_, h, _⟩ | ⟨s, hs, i, hi, e, _, _⟩
  · exact absurd h ht
  unfold Bk.goes
  rw [if_pos hk, e]
  simp only [Bk.num, Int.toNat_natCast]
  rcases hs with rfl | rfl
  · have hi' : i < B.bs.length := hi
    show (B.bs.eraseIdx i).length + B.ss.length + 1 = _
    rw [List.length_eraseIdx_of_lt hi']; omega
  · have hi' : i < B.ss.length := hi
    show B.bs.length + (B.ss.eraseIdx i).length + 1 = _
    rw [List.length_eraseIdx_of_lt hi']; omega
theorem goes_cap (B : Bk) (c : Cm) : (B.goes c).cap = B.cap ∧ (B.goes c).meet = B.meet ∧ (B.goes c).high = B.high := by
  unfold Bk.goes
  split
  · have := B.put_cap (B.at_ c).1 ((B.side (B.at_ c).1).eraseIdx (B.at_ c).2.1.toNat)
    exact ⟨this.1, this.2.1, this.2.2.1⟩
  · exact ⟨rfl, rfl, rfl⟩
theorem goes_inv {B : Bk} {c : Cm} (h : B.Inv) : (B.goes c).Inv := by
  have hc := goes_cap B c
  have hl := B.goes_len c
  have := h.len
  exact ⟨by rw [hc.1]; exact h.lo, by rw [hc.1]; exact h.hi, by rw [hc.1]; omega, fun o ho => h.good o (Bk.goes_mem ho)⟩
theorem does_inv {B : Bk} {c : Cm} (h : B.Inv) (hw : c.wf) : (B.does c).1.Inv := by
  unfold Bk.does
  by_cases h0 : B.why c ≠ 0
  · rw [if_pos h0]; exact num_inv _ h
  rw [if_neg h0]
  have h0' : B.why c = 0 := Decidable.of_not_not h0
  obtain ⟨z1, z2, z3, z4, z5⟩ := rfs_zero h0'
  by_cases h2 : c.k ≠ 2
  · rw [if_pos h2]
    obtain ⟨s1, s2, s3, s4, s5, s6, s7, s8⟩ := chk_sized z2 h2 hw
    obtain ⟨f1, f2, f3, f4⟩ := cmg_facts (c := c) (tg := B.tgt c) (side := (B.at_ c).1)
    have hpk := hw.2.2
    unfold U at hpk
    have hgi := goes_inv (c := c) h
    have hgc := goes_cap B c
    refine comes_inv (top_inv _ (num_inv _ hgi)) (by rw [f1]; omega) (by rw [f1, f2]; omega) (by rw [f1, f2]; exact s4) (fun hk => ?_)
    show ((B.goes c).bs.length : Int) + (B.goes c).ss.length < (B.goes c).cap
    rw [hgc.1]
    by_cases h1 : c.k = 1
    · have := z4 h1 hk
      have hl := B.goes_len c
      omega
    · have := goes_len1 h1 (z1 h1)
      have := h.len
      omega
  · rw [if_neg h2]; exact goes_inv h
/-- the events are numbered on from s, to s' -/
def Num : Int → List Ev → Int → Prop
  | s, [], s' => s' = s
  | s, e :: l, s' => e.seq = nx s ∧ Num (nx s) l s'
theorem Num.app : ∀ {l1 l2 : List Ev} {s s1 s2 : Int}, Num s l1 s1 → Num s1 l2 s2 → Num s (l1 ++ l2) s2
  | [], l2, s, s1, s2, h, k => by have : s1 = s := h; subst this; exact k
  | e :: l1, l2, s, s1, s2, h, k => ⟨h.1, Num.app h.2 k⟩
theorem Num.one (s : Int) (e : Ev) : Num s [e.num (nx s)] (nx s) := ⟨rfl, rfl⟩
/-- of trading: what is told is put behind; it is numbered on; it is of trades, cancels, refreshes -/
theorem step_evs {meet : Int} {t : Tk} {s s' : TS} (h : s.step meet t = some s') : ∃ l, s'.evs = s.evs ++ l ∧ Num s.seq l s'.seq ∧ ∀ e ∈ l, e.kind = 3 ∨ e.kind = 4 ∨ e.kind = 5 := by
  obtain ⟨L, left, seq, evs⟩ := s
  unfold TS.step at h
  simp only at h
  cases L with
  | nil => cases h
  | cons f rest =>
    simp only at h
    split at h
    · simp only [Option.some.injEq] at h
      subst h
      split
      · simp only [TS.meets]
        by_cases m1 : meet = 1
        · rw [if_pos m1, if_neg (show ¬ meet = 2 by omega)]
          exact ⟨_, rfl, Num.one _ _, by simp [evCancel, Ev.num]⟩
        · rw [if_neg m1]
          by_cases m2 : meet = 2
          · rw [if_pos m2]
            exact ⟨_, rfl, Num.one _ _, by simp [evCancel, Ev.num]⟩
          · rw [if_neg m2]
            exact ⟨_, List.append_assoc _ _ _, (Num.one _ _).app (Num.one _ _), by simp [evCancel, Ev.num]⟩
      · simp only [TS.hit]
        split
        · exact ⟨_, rfl, Num.one _ _, by simp [evTrade, Ev.num]⟩
        · split
          · exact ⟨_, List.append_assoc _ _ _, (Num.one _ _).app (Num.one _ _), by simp [evTrade, evRefresh, Ev.num]⟩
          · exact ⟨_, rfl, Num.one _ _, by simp [evTrade, Ev.num]⟩
    · cases h
theorem TRun.evs {meet : Int} {t : Tk} {s z : TS} (h : TRun meet t s z) : ∃ l, z.evs = s.evs ++ l ∧ Num s.seq l z.seq ∧ ∀ e ∈ l, e.kind = 3 ∨ e.kind = 4 ∨ e.kind = 5 := by
  induction h with
  | stop _ => exact ⟨[], by simp, rfl, by simp⟩
  | step hs _ ih =>
    obtain ⟨l1, a1, a2, a3⟩ := step_evs hs
    obtain ⟨l2, b1, b2, b3⟩ := ih
    refine ⟨l1 ++ l2, by rw [b1, a1, List.append_assoc], a2.app b2, fun e he => ?_⟩
    rcases List.mem_append.1 he with he | he
    · exact a3 e he
    · exact b3 e he
theorem comes_evs {B : Bk} {evs : List Ev} {t : Tk} (hOk : (B.ts evs t).Ok) : ∃ l, (B.comes evs t).2 = evs ++ l ∧ Num B.seq l (B.comes evs t).1.seq ∧ (∀ e ∈ l, e.kind = 3 ∨ e.kind = 4 ∨ e.kind = 5) ∧ (B.comes evs t).1.high = B.high := by
  obtain ⟨l, a1, a2, a3⟩ := (tr_run (meet := B.meet) (t := t) hOk).evs
  unfold Bk.comes
  split
  · exact ⟨_, rfl, Num.one _ _, by simp [evCancel, Ev.num], rfl⟩
  · simp only
    generalize tr B.meet t (B.ts evs t) = z at *
    have hh : (B.traded t z).high = B.high := (B.put_cap _ _).2.2.1
    have hsq : (B.traded t z).seq = z.seq := rfl
    split
    · exact ⟨l, a1, a2, a3, hh⟩
    · split
      · refine ⟨l ++ [(evCancel t.o.id z.left 3).num (nx (B.traded t z).seq)], by rw [a1, List.append_assoc]; rfl, a2.app (Num.one _ _), fun e he => ?_, hh⟩
        rcases List.mem_append.1 he with he | he
        · exact a3 e he
        · simp at he; subst he; simp [evCancel, Ev.num]
      · have hc := (B.traded t z).put_cap t.side (rst t.side (restOf t.o z.left) ((B.traded t z).side t.side))
        exact ⟨l, a1, by rw [hc.2.2.2]; exact a2, a3, by rw [hc.2.2.1]; exact hh⟩
/-- the acknowledgements' numbers rise, from h to h' -/
def Hi : Int → List Ev → Int → Prop
  | h, [], h' => h' = h
  | h, e :: l, h' => if e.kind = 1 then h < e.id ∧ Hi e.id l h' else Hi h l h'
theorem Hi.none : ∀ {l : List Ev} {h : Int}, (∀ e ∈ l, e.kind ≠ 1) → Hi h l h
  | [], h, _ => rfl
  | e :: l, h, k => by
    unfold Hi
    rw [if_neg (k e (by simp))]
    exact Hi.none fun e he => k e (by simp [he])
theorem Hi.app : ∀ {l1 l2 : List Ev} {s s1 s2 : Int}, Hi s l1 s1 → Hi s1 l2 s2 → Hi s (l1 ++ l2) s2
  | [], l2, s, s1, s2, h, k => by have : s1 = s := h; subst this; exact k
  | e :: l1, l2, s, s1, s2, h, k => by
    rw [List.cons_append]
    unfold Hi at h ⊢
    split at h
    · rename_i e1; rw [if_pos e1]; exact ⟨h.1, Hi.app h.2 k⟩
    · rename_i e1; rw [if_neg e1]; exact Hi.app h k
theorem does_num {B : Bk} {c : Cm} (h : B.Inv) (hw : c.wf) : Num B.seq (B.does c).2 (B.does c).1.seq ∧ Hi B.high (B.does c).2 (B.does c).1.high := by
  unfold Bk.does
  by_cases h0 : B.why c ≠ 0
  · rw [if_pos h0]; exact ⟨Num.one _ _, Hi.none (by simp [evReject, Ev.num])⟩
  rw [if_neg h0]
  obtain ⟨z1, z2, z3, z4, z5⟩ := rfs_zero (Decidable.of_not_not h0)
  have hgone : Num B.seq (B.gone c) (B.goes c).seq ∧ ∀ e ∈ B.gone c, e.kind ≠ 1 := by
    unfold Bk.gone Bk.goes
    by_cases h1 : c.k ≠ 1
    · rw [if_pos h1, if_pos h1]
      cases ht : B.tgt c with
      | none => exact absurd ht (z1 h1)
      | some o => exact ⟨Num.one _ _, by simp [evCancel, Ev.num]⟩
    · rw [if_neg h1, if_neg h1]; exact ⟨rfl, by simp⟩
  have hgh := (goes_cap B c).2.2
  by_cases h2 : c.k ≠ 2
  · rw [if_pos h2]
    obtain ⟨s1, s2, _⟩ := chk_sized z2 h2 hw
    obtain ⟨f1, f2, f3, f4⟩ := cmg_facts (c := c) (tg := B.tgt c) (side := (B.at_ c).1)
    generalize cmg c (B.tgt c) (B.at_ c).1 = tk at *
    obtain ⟨l, a1, a2, a3, a4⟩ := comes_evs (B := ((B.goes c).num (nx (B.goes c).seq)).top tk.o.id) (evs := B.gone c ++ [(evAck tk).num (nx (B.goes c).seq)]) (t := tk) (ts_ok (fun o ho => h.good o (Bk.goes_mem ho)) (by rw [f1]; omega) (by rw [f1]; omega))
    rw [a1, a4]
    refine ⟨(hgone.1.app (Num.one _ _)).app a2, ?_⟩
    have hh : Hi B.high (B.gone c ++ [(evAck tk).num (nx (B.goes c).seq)]) tk.o.id := (Hi.none hgone.2).app (by
      unfold Hi
      rw [if_pos (by rfl)]
      exact ⟨by show B.high < tk.o.id; rw [f3]; exact z3 h2, rfl⟩)
    exact hh.app (Hi.none fun e he => by rcases a3 e he with h | h | h <;> omega)
  · rw [if_neg h2]
    exact ⟨hgone.1, by rw [hgh]; exact Hi.none hgone.2⟩
theorem comes_len {B : Bk} {evs : List Ev} {t : Tk} (hOk : (B.ts evs t).Ok) (hl : (B.ts evs t).L.length ≤ 4096) : (B.comes evs t).2.length ≤ evs.length + 3000000 := by
  obtain ⟨_, _, h3, _⟩ := (tr_run (meet := B.meet) (t := t) hOk).ok hOk
  have hm := mu_le hOk
  have he : (B.ts evs t).evs.length = evs.length := rfl
  unfold Bk.comes
  split
  · simp
  · simp only
    generalize tr B.meet t (B.ts evs t) = z at *
    split
    · show z.evs.length ≤ _; omega
    · split
      · simp only [List.length_append, List.length_singleton]; omega
      · show z.evs.length ≤ _; omega
theorem does_len {B : Bk} {c : Cm} (h : B.Inv) (hw : c.wf) : (B.does c).2.length ≤ 4000000 := by
  have hlen := h.len
  have hhi := h.hi
  unfold Bk.does
  by_cases h0 : B.why c ≠ 0
  · rw [if_pos h0]; simp
  rw [if_neg h0]
  obtain ⟨z1, z2, z3, z4, z5⟩ := rfs_zero (Decidable.of_not_not h0)
  have hg := gone_len B c
  by_cases h2 : c.k ≠ 2
  · rw [if_pos h2]
    obtain ⟨s1, s2, _⟩ := chk_sized z2 h2 hw
    obtain ⟨f1, f2, f3, f4⟩ := cmg_facts (c := c) (tg := B.tgt c) (side := (B.at_ c).1)
    have hgl := B.goes_len c
    generalize cmg c (B.tgt c) (B.at_ c).1 = tk at *
    have hside : ((((B.goes c).num (nx (B.goes c).seq)).top tk.o.id).side (3 - tk.side)).length ≤ 4096 := by
      unfold Bk.side
      split
      · show (B.goes c).bs.length ≤ _; omega
      · show (B.goes c).ss.length ≤ _; omega
    have := comes_len (B := ((B.goes c).num (nx (B.goes c).seq)).top tk.o.id) (evs := B.gone c ++ [(evAck tk).num (nx (B.goes c).seq)]) (t := tk) (ts_ok (fun o ho => h.good o (Bk.goes_mem ho)) (by rw [f1]; omega) (by rw [f1]; omega)) hside
    simp only [List.length_append, List.length_singleton] at this
    omega
  · rw [if_neg h2]; show (B.gone c).length ≤ _; omega
end Go.Proofs.Ytfajjkolhajldaa

/- Plain: a book stays one that can be. -/
namespace Go.Proofs.Ytfajjkolhajldaa
open Go.V
set_option linter.unusedVariables false
set_option linter.unusedSimpArgs false

def ids (l : List Ord) : List Int := l.map Ord.id
def Sd (s : Int) (l : List Ord) : Prop := l.Pairwise (fun a b => bet s b.pr a.pr = false)
theorem Sd.srt {s : Int} {l : List Ord} (h : Sd s l) : Srt s l := fun i hi h0 => List.pairwise_iff_getElem.1 h (i - 1) i (by omega) hi (by omega)
theorem Srt.sd {s : Int} : ∀ {l : List Ord}, Srt s l → Sd s l
  | [], _ => .nil
  | x :: l, h => by
    have hl : Srt s l := fun i hi h0 => by
      have := h (i + 1) (by simpa using hi) (by omega)
      simp only [List.getElem_cons_succ, Nat.add_sub_cancel] at this
      obtain ⟨k, rfl⟩ : ∃ k, i = k + 1 := ⟨i - 1, by omega⟩
      exact this
    have ih := Srt.sd hl
    refine .cons (fun y hy => ?_) ih
    cases l with
    | nil => cases hy
    | cons z l =>
      have h1 : bet s z.pr x.pr = false := h 1 (by simp) (by omega)
      rcases List.mem_cons.1 hy with rfl | hy
      · exact h1
      · have h2 := List.rel_of_pairwise_cons ih hy
        unfold bet at h1 h2 ⊢
        split at h1 <;> simp_all <;> omega
theorem Dist.of {l : List Ord} (h : (ids l).Nodup) : Dist l := fun i hi j hj => by
  have h' : l.Pairwise (fun a b => a.id ≠ b.id) := List.pairwise_map.1 h
  exact fun e => List.pairwise_iff_getElem.1 h' j i (by omega) hi hj e.symm
theorem Dist.nd {l : List Ord} (h : Dist l) : (ids l).Nodup := by
  refine List.pairwise_map.2 (List.pairwise_iff_getElem.2 fun i j hi hj hij => fun e => h j hj i hij e.symm)
/-- an order put behind all that are not worse -/
def ins (s : Int) (o : Ord) : List Ord → List Ord
  | [] => [o]
  | x :: l => if bet s o.pr x.pr = true then o :: x :: l else x :: ins s o l
theorem bet_tr {s p x y : Int} (h : bet s p x = true) (h2 : bet s y x = false) : bet s p y = true := by
  unfold bet at *
  split at h <;> simp_all <;> omega
theorem rst_ins {s : Int} {o : Ord} : ∀ {l : List Ord}, Sd s l → rst s o l = ins s o l
  | [], _ => rfl
  | x :: l, h => by
    have ih := rst_ins (o := o) (List.Pairwise.of_cons h)
    by_cases c : bet s o.pr x.pr = true
    · have hl : l.all (fun x => bet s o.pr x.pr) = true := List.all_eq_true.2 fun y hy => bet_tr c (List.rel_of_pairwise_cons h hy)
      have : rpos s o.pr (x :: l) = 0 := by unfold rpos; rw [c, hl]; rfl
      unfold rst ins; rw [this, if_pos c]; rfl
    · have : rpos s o.pr (x :: l) = rpos s o.pr l + 1 := by
        rw [rpos]; simp only [Bool.not_eq_true] at c; rw [c]; rfl
      unfold ins; rw [if_neg c, ← ih]; unfold rst; rw [this]; rfl
theorem rst_perm (s : Int) (o : Ord) (l : List Ord) : (rst s o l).Perm (o :: l) := by
  unfold rst
  rw [List.append_assoc, List.singleton_append]
  refine List.perm_middle.trans ?_
  rw [List.take_append_drop]
theorem ins_perm (s : Int) (o : Ord) : ∀ (l : List Ord), (ins s o l).Perm (o :: l)
  | [] => .refl _
  | x :: l => by
    unfold ins; split
    · exact .refl _
    · exact ((ins_perm s o l).cons x).trans (.swap o x l)
theorem ins_sd {s : Int} {o : Ord} : ∀ {l : List Ord}, Sd s l → Sd s (ins s o l)
  | [], _ => List.pairwise_singleton _ _
  | x :: l, h => by
    have ih := ins_sd (o := o) (List.Pairwise.of_cons h)
    unfold ins; split
    · rename_i c
      refine .cons (fun y hy => ?_) h
      have hy' : bet s o.pr y.pr = true := by
        rcases List.mem_cons.1 hy with rfl | hy
        · exact c
        · exact bet_tr c (List.rel_of_pairwise_cons h hy)
      unfold bet at hy' ⊢; split at hy' <;> simp_all <;> omega
    · rename_i c
      refine .cons (fun y hy => ?_) ih
      rcases List.mem_cons.1 ((ins_perm s o l).mem_iff.1 hy) with rfl | hy
      · simpa using c
      · exact List.rel_of_pairwise_cons h hy
/-- an order that can rest -/
def Ord.V (o : Ord) (high : Int) : Prop := o.rests high ∧ o.wf
theorem Ord.V.G {o : Ord} {h : Int} (k : o.V h) : o.G := by
  obtain ⟨k1, k2⟩ := k
  unfold Ord.rests Rests at k1; unfold Ord.wf U at k2; unfold Ord.G; omega
theorem Ord.V.up {o : Ord} {h h' : Int} (k : o.V h) (e : h ≤ h') : o.V h' := by
  obtain ⟨k1, k2⟩ := k
  refine ⟨?_, k2⟩
  unfold Ord.rests Rests at k1 ⊢; omega
theorem less_V {f : Ord} {q h : Int} (k : f.V h) (h0 : 0 < q) (h1 : 0 < f.v - q) : (f.less q).V h := by
  obtain ⟨k1, k2⟩ := k
  unfold Ord.less
  refine ⟨?_, ?_⟩
  · unfold Ord.rests Rests at k1 ⊢; simp only; omega
  · unfold Ord.wf U at k2 ⊢; simp only; omega
theorem next_V {f : Ord} {h : Int} (k : f.V h) (h1 : 0 < f.hd) : f.next.V h := by
  obtain ⟨k1, k2⟩ := k
  unfold Ord.next
  refine ⟨?_, ?_⟩
  · unfold Ord.rests Rests at k1 ⊢; unfold Ord.wf U at k2; simp only; omega
  · unfold Ord.rests Rests at k1; unfold Ord.wf U at k2 ⊢; simp only; omega
/-- what trading leaves of a side -/
structure Keeps (sd : Int) (L L' : List Ord) : Prop where
  rests : ∀ hg, (∀ o ∈ L, o.V hg) → ∀ o ∈ L', o.V hg
  sd : Sd sd L'
  ids : ∃ x, (x ++ ids L').Perm (ids L)
  pr : ∀ o ∈ L', ∃ p ∈ L, p.pr = o.pr
theorem Keeps.refl {s : Int} {L : List Ord} (h : Sd s L) : Keeps s L L := ⟨fun _ h => h, h, ⟨[], .refl _⟩, fun o h => ⟨o, h, rfl⟩⟩
theorem Keeps.trans {s : Int} {L L' L'' : List Ord} (h : Keeps s L L') (k : Keeps s L' L'') : Keeps s L L'' := by
  obtain ⟨x, hx⟩ := h.ids
  obtain ⟨y, hy⟩ := k.ids
  refine ⟨fun hg q => k.rests hg (h.rests hg q), k.sd, ⟨x ++ y, ?_⟩, fun o ho => ?_⟩
  · rw [List.append_assoc]; exact (hy.append_left x).trans hx
  · obtain ⟨p, hp, e⟩ := k.pr o ho
    obtain ⟨q, hq, e'⟩ := h.pr p hp
    exact ⟨q, hq, e'.trans e⟩
theorem Keeps.tail {s : Int} {f : Ord} {L : List Ord} (h : Sd s (f :: L)) : Keeps s (f :: L) L :=
  ⟨fun hg k o ho => k o (by simp [ho]), List.Pairwise.of_cons h, ⟨[f.id], .refl _⟩, fun o ho => ⟨o, by simp [ho], rfl⟩⟩
theorem step_keeps {meet : Int} {t : Tk} {s s' : TS} (hs : s.step meet t = some s') (hsd : Sd (3 - t.side) s.L) : Keeps (3 - t.side) s.L s'.L := by
  obtain ⟨L, left, seq, evs⟩ := s
  unfold TS.step at hs
  simp only at hs hsd ⊢
  cases L with
  | nil => cases hs
  | cons f rest =>
    simp only at hs
    split at hs
    · rename_i hc
      simp only [Option.some.injEq] at hs
      subst hs
      split
      · simp only [TS.meets]
        by_cases m1 : meet = 1
        · rw [if_pos m1, if_neg (show ¬ meet = 2 by omega)]
          exact .refl hsd
        · rw [if_neg m1]
          by_cases m2 : meet = 2
          · rw [if_pos m2]; exact .tail hsd
          · rw [if_neg m2]; exact .tail hsd
      · simp only [TS.hit]
        by_cases c1 : 0 < f.v - min left f.v
        · rw [if_pos c1]
          refine ⟨fun hg k o ho => ?_, ?_, ⟨[], .refl _⟩, fun o ho => ?_⟩
          · rcases List.mem_cons.1 ho with rfl | ho
            · refine less_V (k f (by simp)) ?_ c1
              have := hc.1; omega
            · exact k o (by simp [ho])
          · exact .cons (fun y hy => List.rel_of_pairwise_cons hsd hy) (List.Pairwise.of_cons hsd)
          · rcases List.mem_cons.1 ho with rfl | ho
            · exact ⟨f, by simp, rfl⟩
            · exact ⟨o, by simp [ho], rfl⟩
        · rw [if_neg c1]
          by_cases c2 : 0 < f.hd
          · rw [if_pos c2]
            show Keeps _ _ (rst (3 - t.side) f.next rest)
            refine ⟨fun hg k o ho => ?_, ?_, ⟨[], ?_⟩, fun o ho => ?_⟩
            · rcases rst_mem ho with rfl | ho
              · exact next_V (k f (by simp)) c2
              · exact k o (by simp [ho])
            · rw [rst_ins (List.Pairwise.of_cons hsd)]; exact ins_sd (List.Pairwise.of_cons hsd)
            · exact (rst_perm (3 - t.side) f.next rest).map Ord.id
            · rcases rst_mem ho with rfl | ho
              · exact ⟨f, by simp, rfl⟩
              · exact ⟨o, by simp [ho], rfl⟩
          · rw [if_neg c2]; exact .tail hsd
    · cases hs
theorem TRun.keeps {meet : Int} {t : Tk} {s z : TS} (h : TRun meet t s z) (hsd : Sd (3 - t.side) s.L) : Keeps (3 - t.side) s.L z.L ∧ z.step meet t = none := by
  induction h with
  | stop hs => exact ⟨.refl hsd, hs⟩
  | step hs _ ih =>
    have h1 := step_keeps hs hsd
    obtain ⟨i1, i2⟩ := ih h1.sd
    exact ⟨h1.trans i1, i2⟩
/-- a book that can be -/
structure Bk.Vl (B : Bk) : Prop where
  cfg : Cfg B.cap B.meet
  len : (B.bs.length : Int) + B.ss.length ≤ B.cap
  rests : ∀ o ∈ B.bs ++ B.ss, o.V B.high
  nd : (ids (B.bs ++ B.ss)).Nodup
  s1 : Sd 1 B.bs
  s2 : Sd 2 B.ss
  cross : ∀ b ∈ B.bs, ∀ s ∈ B.ss, b.pr < s.pr
theorem Bk.Vl.inv {B : Bk} (h : B.Vl) : B.Inv := ⟨h.cfg.1, h.cfg.2.1, h.len, fun o ho => (h.rests o ho).G⟩
theorem crossB_false {bs ss : List Ord} (h : ∀ b ∈ bs, ∀ s ∈ ss, b.pr < s.pr) : crossB bs ss = false := by
  cases bs with
  | nil => rfl
  | cons b bs =>
    cases ss with
    | nil => rfl
    | cons s ss =>
      have := h b (by simp) s (by simp)
      unfold crossB; simp; omega
theorem Bk.Vl.vld {B : Bk} (h : B.Vl) : vld B.cap B.meet B.high B.bs B.ss = 0 := by
  have := h.cfg; have := h.len
  unfold Cfg at *
  rw [Proofs.Ytfajjkolhajldaa.vld, if_pos ⟨h.cfg, by omega, by omega, by omega, fun o ho => (h.rests o ho).1, .of h.nd, h.s1.srt, h.s2.srt, crossB_false h.cross⟩]
theorem newB_vl {c m : Int} (h : Cfg c m) : (newB c m).Vl := ⟨h, by unfold Cfg at h; simp [newB]; omega, by simp [newB], by simp [newB, Proofs.Ytfajjkolhajldaa.ids], .nil, .nil, by simp [newB]⟩
theorem num_vl {B : Bk} (q : Int) (h : B.Vl) : (B.num q).Vl := ⟨h.cfg, h.len, h.rests, h.nd, h.s1, h.s2, h.cross⟩
theorem top_vl {B : Bk} {q : Int} (h : B.Vl) (e : B.high ≤ q) : (B.top q).Vl := ⟨h.cfg, h.len, fun o ho => (h.rests o ho).up e, h.nd, h.s1, h.s2, h.cross⟩
theorem nd_of {l l' : List Ord} (h : ∃ x, (x ++ ids l').Perm (ids l)) (hn : (ids l).Nodup) : (ids l').Nodup := by
  obtain ⟨x, hx⟩ := h
  exact (List.nodup_append.1 (hx.nodup_iff.2 hn)).2.1
theorem ids_app (a b : List Ord) : ids (a ++ b) = ids a ++ ids b := List.map_append
theorem ids_mem {l l' : List Ord} (h : ∃ x, (x ++ ids l').Perm (ids l)) : ∀ i ∈ ids l', i ∈ ids l := fun i hi => by
  obtain ⟨x, hx⟩ := h
  exact hx.mem_iff.1 (List.mem_append_right _ hi)
/-- one side of a book that can be, less -/
theorem put1_vl {B : Bk} {l : List Ord} (h : B.Vl) (k : Keeps 1 B.bs l) (hl : l.length ≤ B.bs.length) : (B.put 1 l).Vl := by
  have hlen := h.len
  refine ⟨h.cfg, by show (l.length : Int) + B.ss.length ≤ B.cap; omega, fun o ho => ?_, ?_, k.sd, h.s2, fun b hb s hs => ?_⟩
  · rcases List.mem_append.1 (show o ∈ l ++ B.ss from ho) with ho | ho
    · exact k.rests _ (fun o ho => h.rests o (by simp [ho])) o ho
    · exact h.rests o (by simp [ho])
  · show (ids (l ++ B.ss)).Nodup
    obtain ⟨x, hx⟩ := k.ids
    refine nd_of ⟨x, ?_⟩ h.nd
    rw [ids_app, ids_app, ← List.append_assoc]
    exact hx.append_right _
  · obtain ⟨p, hp, e⟩ := k.pr b hb
    have := h.cross p hp s hs; omega
theorem put2_vl {B : Bk} {l : List Ord} (h : B.Vl) (k : Keeps 2 B.ss l) (hl : l.length ≤ B.ss.length) : (B.put 2 l).Vl := by
  have hlen := h.len
  refine ⟨h.cfg, by show (B.bs.length : Int) + l.length ≤ B.cap; omega, fun o ho => ?_, ?_, h.s1, k.sd, fun b hb s hs => ?_⟩
  · rcases List.mem_append.1 (show o ∈ B.bs ++ l from ho) with ho | ho
    · exact h.rests o (by simp [ho])
    · exact k.rests _ (fun o ho => h.rests o (by simp [ho])) o ho
  · show (ids (B.bs ++ l)).Nodup
    obtain ⟨x, hx⟩ := k.ids
    refine nd_of ⟨x, ?_⟩ h.nd
    rw [ids_app, ids_app]
    have h1 : (x ++ (ids B.bs ++ ids l)).Perm (ids B.bs ++ (x ++ ids l)) := by
      rw [← List.append_assoc, ← List.append_assoc]
      exact List.perm_append_comm.append_right _
    exact h1.trans (hx.append_left _)
  · obtain ⟨p, hp, e⟩ := k.pr s hs
    have := h.cross b hb p hp; omega
theorem Keeps.erase {s : Int} {L : List Ord} (h : Sd s L) (i : Nat) : Keeps s L (L.eraseIdx i) := by
  refine ⟨fun hg k o ho => k o (List.mem_of_mem_eraseIdx ho), h.sublist (List.eraseIdx_sublist ..), ?_, fun o ho => ⟨o, List.mem_of_mem_eraseIdx ho, rfl⟩⟩
  by_cases hi : i < L.length
  · refine ⟨[L[i].id], ?_⟩
    have e : L = L.take i ++ L[i] :: L.drop (i + 1) := by rw [← List.drop_eq_getElem_cons hi, List.take_append_drop]
    have e2 : Proofs.Ytfajjkolhajldaa.ids L = Proofs.Ytfajjkolhajldaa.ids (L.take i ++ L[i] :: L.drop (i + 1)) := congrArg Proofs.Ytfajjkolhajldaa.ids e
    rw [e2, List.eraseIdx_eq_take_drop_succ]
    simp only [Proofs.Ytfajjkolhajldaa.ids, List.map_append, List.map_cons]
    exact (List.perm_middle (l₁ := List.map Ord.id (L.take i)) (a := L[i].id) (l₂ := List.map Ord.id (L.drop (i + 1)))).symm
  · rw [List.eraseIdx_of_length_le (by omega)]; exact ⟨[], .refl _⟩
theorem goes_vl {B : Bk} {c : Cm} (h : B.Vl) (ht : c.k ≠ 1 → B.tgt c ≠ none) : (B.goes c).Vl := by
  unfold Bk.goes
  by_cases hk : c.k ≠ 1
  · rw [if_pos hk]
    rcases at_spec B c with ⟨_, h', _⟩ | ⟨s, hs, i, hi, e, _, _⟩
    · exact absurd h' (ht hk)
    rw [e]
    simp only [Int.toNat_natCast]
    refine num_vl _ ?_
    rcases hs with rfl | rfl
    · exact put1_vl h (.erase h.s1 i) (List.length_eraseIdx_le ..)
    · exact put2_vl h (.erase h.s2 i) (List.length_eraseIdx_le ..)
  · rw [if_neg hk]; exact h
theorem goes_fresh {B : Bk} {c : Cm} {x : Int} (h : ∀ o ∈ B.bs ++ B.ss, o.id < x) : ∀ o ∈ (B.goes c).bs ++ (B.goes c).ss, o.id < x := fun o ho => h o (Bk.goes_mem ho)
/-- trading keeps a book one that can be; at its end the other side's best is not reached -/
theorem traded_vl {B : Bk} {t : Tk} {evs : List Ev} {z : TS} (h : B.Vl) (hs : t.side = 1 ∨ t.side = 2) (hr : TRun B.meet t (B.ts evs t) z) (hz : z.L.length ≤ (B.side (3 - t.side)).length) :
    (B.traded t z).Vl ∧ ids ((B.traded t z).bs ++ (B.traded t z).ss) ⊆ ids (B.bs ++ B.ss) ∧ (B.traded t z).side t.side = B.side t.side ∧ (B.traded t z).side (3 - t.side) = z.L ∧
      (0 < z.left → t.kind ≠ 2 → ∀ x ∈ z.L, bet t.side x.pr t.o.pr = true) := by
  obtain ⟨_, _, bs, ss, _, _⟩ := B
  rcases hs with hs | hs
  · have hk := hr.keeps (by show Sd _ _; simp only [Bk.ts, Bk.side, hs]; exact h.s2)
    simp only [Bk.ts, Bk.side, hs] at hk hz
    obtain ⟨hk, hn⟩ := hk
    refine ⟨?_, ?_, ?_, ?_, fun hl h2 x hx => ?_⟩
    · unfold Bk.traded; rw [hs]; exact num_vl _ (put2_vl h hk hz)
    · unfold Bk.traded Bk.put Bk.num; rw [hs]
      show ids (bs ++ z.L) ⊆ ids (bs ++ ss)
      intro i hi
      rw [ids_app, List.mem_append] at hi ⊢
      exact hi.imp id (ids_mem hk.ids i)
    · unfold Bk.traded Bk.put Bk.num Bk.side; simp [hs]
    · unfold Bk.traded Bk.put Bk.num Bk.side; simp [hs]
    · rw [hs]
      obtain ⟨L, left, _, _⟩ := z
      cases L with
      | nil => cases hx
      | cons f L =>
        unfold TS.step at hn
        simp only at hn hl
        split at hn
        · cases hn
        · rename_i hc
          have hf : bet 1 f.pr t.o.pr = true := by
            have hr' : ¬ reach t.side t.kind t.o.pr f.pr = true := fun e => hc ⟨hl, e⟩
            unfold reach at hr'
            rw [hs] at hr'
            simpa [h2] using hr'
          rcases List.mem_cons.1 hx with rfl | hx
          · exact hf
          · have := List.rel_of_pairwise_cons hk.sd hx
            unfold bet at hf this ⊢; simp at hf this ⊢; omega
  · have hk := hr.keeps (by show Sd _ _; simp only [Bk.ts, Bk.side, hs]; exact h.s1)
    simp only [Bk.ts, Bk.side, hs] at hk hz
    obtain ⟨hk, hn⟩ := hk
    refine ⟨?_, ?_, ?_, ?_, fun hl h2 x hx => ?_⟩
    · unfold Bk.traded; rw [hs]; exact num_vl _ (put1_vl h hk hz)
    · unfold Bk.traded Bk.put Bk.num; rw [hs]
      show ids (z.L ++ ss) ⊆ ids (bs ++ ss)
      intro i hi
      rw [ids_app, List.mem_append] at hi ⊢
      exact hi.imp (ids_mem hk.ids i) id
    · unfold Bk.traded Bk.put Bk.num Bk.side; simp [hs]
    · unfold Bk.traded Bk.put Bk.num Bk.side; simp [hs]
    · rw [hs]
      obtain ⟨L, left, _, _⟩ := z
      cases L with
      | nil => cases hx
      | cons f L =>
        unfold TS.step at hn
        simp only at hn hl
        split at hn
        · cases hn
        · rename_i hc
          have hf : bet 2 f.pr t.o.pr = true := by
            have hr' : ¬ reach t.side t.kind t.o.pr f.pr = true := fun e => hc ⟨hl, e⟩
            unfold reach at hr'
            rw [hs] at hr'
            simpa [h2] using hr'
          rcases List.mem_cons.1 hx with rfl | hx
          · exact hf
          · have := List.rel_of_pairwise_cons hk.sd hx
            unfold bet at hf this ⊢; simp at hf this ⊢; omega
theorem put_vl1 {B : Bk} {o : Ord} (h : B.Vl) (hs : o.V B.high) (hf : ∀ i ∈ ids (B.bs ++ B.ss), i ≠ o.id) (hc : (B.bs.length : Int) + B.ss.length < B.cap) (hx : ∀ s ∈ B.ss, o.pr < s.pr) : (B.put 1 (rst 1 o B.bs)).Vl := by
  have hp := rst_perm 1 o B.bs
  refine ⟨h.cfg, ?_, fun x hxm => ?_, ?_, ?_, h.s2, fun b hb s hs' => ?_⟩
  · show ((rst 1 o B.bs).length : Int) + B.ss.length ≤ B.cap
    rw [rst_length]; omega
  · rcases List.mem_append.1 (show x ∈ rst 1 o B.bs ++ B.ss from hxm) with hm | hm
    · rcases rst_mem hm with rfl | hm
      · exact hs
      · exact h.rests x (by simp [hm])
    · exact h.rests x (by simp [hm])
  · show (ids (rst 1 o B.bs ++ B.ss)).Nodup
    have : (ids (rst 1 o B.bs ++ B.ss)).Perm (o.id :: ids (B.bs ++ B.ss)) := by
      have := (hp.append_right B.ss).map Ord.id
      exact this
    refine this.nodup_iff.2 (List.nodup_cons.2 ⟨fun hm => hf _ hm rfl, h.nd⟩)
  · show Sd 1 (rst 1 o B.bs)
    rw [rst_ins h.s1]; exact ins_sd h.s1
  · rcases rst_mem (show b ∈ rst 1 o B.bs from hb) with rfl | hm
    · exact hx s hs'
    · exact h.cross b hm s hs'
theorem put_vl2 {B : Bk} {o : Ord} (h : B.Vl) (hs : o.V B.high) (hf : ∀ i ∈ ids (B.bs ++ B.ss), i ≠ o.id) (hc : (B.bs.length : Int) + B.ss.length < B.cap) (hx : ∀ s ∈ B.bs, s.pr < o.pr) : (B.put 2 (rst 2 o B.ss)).Vl := by
  have hp := rst_perm 2 o B.ss
  refine ⟨h.cfg, ?_, fun x hxm => ?_, ?_, h.s1, ?_, fun b hb s hs' => ?_⟩
  · show (B.bs.length : Int) + (rst 2 o B.ss).length ≤ B.cap
    rw [rst_length]; omega
  · rcases List.mem_append.1 (show x ∈ B.bs ++ rst 2 o B.ss from hxm) with hm | hm
    · exact h.rests x (by simp [hm])
    · rcases rst_mem hm with rfl | hm
      · exact hs
      · exact h.rests x (by simp [hm])
  · show (ids (B.bs ++ rst 2 o B.ss)).Nodup
    have : (ids (B.bs ++ rst 2 o B.ss)).Perm (o.id :: ids (B.bs ++ B.ss)) := by
      have := ((hp.append_left B.bs).trans List.perm_middle).map Ord.id
      exact this
    refine this.nodup_iff.2 (List.nodup_cons.2 ⟨fun hm => hf _ hm rfl, h.nd⟩)
  · show Sd 2 (rst 2 o B.ss)
    rw [rst_ins h.s2]; exact ins_sd h.s2
  · rcases rst_mem (show s ∈ rst 2 o B.ss from hs') with rfl | hm
    · exact hx b hb
    · exact h.cross b hb s hm
theorem restOf_V {o : Ord} {left q hg : Int} (h0 : left ≠ 0) (h1 : 0 ≤ left) (h2 : left ≤ q) (h3 : q ≤ 4294967295) (h4 : o.pk ≤ q) (h5 : 0 ≤ o.pk) (h6 : o.pk = 0 ∨ q ≤ 256 * o.pk) (hid : 1 ≤ o.id ∧ o.id ≤ hg) (hu : U o.id) (ht : o.ty = 1 ∨ o.ty = 5) (hp : 0 ≤ o.pr ∧ o.pr < 262144) : (restOf o left).V hg := by
  unfold restOf Ord.V Ord.rests Rests Ord.wf U at *
  simp only
  split <;> omega
/-- an order that can come -/
structure Tk.V (t : Tk) (B : Bk) : Prop where
  sd : t.side = 1 ∨ t.side = 2
  q : 1 ≤ t.left ∧ t.left ≤ 4294967295
  pk : 0 ≤ t.o.pk ∧ t.o.pk ≤ t.left
  pk2 : t.o.pk = 0 ∨ t.left ≤ 256 * t.o.pk
  room : t.kind = 1 ∨ t.kind = 5 → (B.bs.length : Int) + B.ss.length < B.cap
  id : 1 ≤ t.o.id ∧ U t.o.id
  ty : t.o.ty = t.kind
  pr : 0 ≤ t.o.pr ∧ t.o.pr < 262144
  kd : 1 ≤ t.kind ∧ t.kind ≤ 5
  fresh : ∀ i ∈ ids (B.bs ++ B.ss), i < t.o.id
  post : t.kind = 5 → headReach t.side t.kind t.o.pr (B.side (3 - t.side)) = false
theorem ts_ok' {B : Bk} {evs : List Ev} {t : Tk} (h : B.Vl) (k : t.V B) : (B.ts evs t).Ok := ts_ok h.inv.good (by have := k.q; omega) (by have := k.q; omega)
theorem comes_vl {B : Bk} {evs : List Ev} {t : Tk} (h : B.Vl) (k : t.V B) (hh : t.o.id ≤ B.high) : (B.comes evs t).1.Vl := by
  have hOk : (B.ts evs t).Ok := ts_ok' h k
  have hrun := tr_run (meet := B.meet) (t := t) hOk
  obtain ⟨zok, zlen, _, zl⟩ := hrun.ok hOk
  unfold Bk.comes
  split
  · exact num_vl _ h
  · simp only
    generalize tr B.meet t (B.ts evs t) = z at *
    obtain ⟨v1, v2, v3, v4, v5⟩ := traded_vl h k.sd hrun zlen
    split
    · exact v1
    · rename_i hl0
      split
      · exact num_vl _ v1
      · rename_i hk
        have hc := B.put_cap (3 - t.side) z.L
        have hlo := zok.lo
        have hG : (restOf t.o z.left).V (B.traded t z).high := restOf_V (q := t.left) hl0 hlo zl k.q.2 k.pk.2 k.pk.1 k.pk2 ⟨k.id.1, by show _ ≤ (B.put (3 - t.side) z.L).high; rw [hc.2.2.1]; exact hh⟩ k.id.2 (by rw [k.ty]; omega) k.pr
        have hf : ∀ i ∈ ids ((B.traded t z).bs ++ (B.traded t z).ss), i ≠ (restOf t.o z.left).id := fun i hi e => by
          have := k.fresh i (v2 hi)
          have e2 : (restOf t.o z.left).id = t.o.id := rfl
          omega
        have hcap : ((B.traded t z).bs.length : Int) + (B.traded t z).ss.length < (B.traded t z).cap := by
          have h1 := k.room (by omega)
          have h2 := (traded_inv (t := t) h.inv zok zlen).2
          have h3 : (B.traded t z).cap = B.cap := hc.1
          omega
        have hx := v5 (by omega) (by omega)
        have e2 : (restOf t.o z.left).pr = t.o.pr := rfl
        generalize B.traded t z = B1 at *
        rcases k.sd with hs | hs
        · rw [hs] at v3 v4 hx ⊢
          exact put_vl1 v1 hG hf hcap fun s hs' => by
            have := hx s (by rw [← v4]; exact hs')
            unfold bet at this; simp at this; omega
        · rw [hs] at v3 v4 hx ⊢
          exact put_vl2 v1 hG hf hcap fun s hs' => by
            have := hx s (by rw [← v4]; exact hs')
            unfold bet at this; simp at this; omega
theorem cmg_ty {c : Cm} {tg : Option Ord} {side : Int} : (cmg c tg side).o.ty = (cmg c tg side).kind := by
  unfold cmg
  cases tg with
  | none => rfl
  | some o => simp only; split <;> rfl
theorem cmg_kd {c : Cm} {tg : Option Ord} {side : Int} (h1 : c.k = 1 → 1 ≤ c.ty ∧ c.ty ≤ 5) (hk : c.k = 1 ∨ c.k = 3) (h3 : c.k = 3 → tg ≠ none) (ht : ∀ o, tg = some o → o.ty = 1 ∨ o.ty = 5) : 1 ≤ (cmg c tg side).kind ∧ (cmg c tg side).kind ≤ 5 := by
  unfold cmg
  cases tg with
  | none =>
    rcases hk with hk | hk
    · exact h1 hk
    · exact absurd rfl (h3 hk)
  | some o =>
    simp only; split
    · have := ht o rfl; show 1 ≤ o.ty ∧ o.ty ≤ 5; omega
    · rename_i hk'
      exact h1 (by omega)
theorem tgt_mem {B : Bk} {c : Cm} {o : Ord} (h : B.tgt c = some o) : o ∈ B.bs ++ B.ss ∧ ((B.at_ c).1 = 1 ∨ (B.at_ c).1 = 2) ∧ o.id = c.tg := by
  rcases at_spec B c with ⟨_, h', _⟩ | ⟨s, hs, i, hi, e, h', hid⟩
  · rw [h'] at h; cases h
  · rw [h'] at h; cases h
    exact ⟨B.side_sub _ _ (List.getElem_mem hi), by rw [e]; exact hs, hid⟩
theorem head_sub {s k p : Int} {l l' : List Ord} (h : headReach s k p l = false) (hl : ∀ y ∈ l', ∃ x ∈ l, x.pr = y.pr) (hs : Sd (3 - s) l) (hsd : s = 1 ∨ s = 2) : headReach s k p l' = false := by
  cases l' with
  | nil => rfl
  | cons y l' =>
    obtain ⟨x, hx, e⟩ := hl y (by simp)
    cases l with
    | nil => cases hx
    | cons z l =>
      have hz : reach s k p z.pr = false := h
      show reach s k p y.pr = false
      rw [← e]
      rcases List.mem_cons.1 hx with rfl | hx
      · exact hz
      · have := List.rel_of_pairwise_cons hs hx
        unfold reach bet at *
        rcases hsd with rfl | rfl <;> simp_all <;> omega
/-- the order that a command lets come can come -/
theorem cmg_V {B : Bk} {c : Cm} (h : B.Vl) (hw : c.wf) (h0 : B.why c = 0) (h2 : c.k ≠ 2) : (cmg c (B.tgt c) (B.at_ c).1).V (((B.goes c).num (nx (B.goes c).seq)).top (cmg c (B.tgt c) (B.at_ c).1).o.id) ∧ B.high < (cmg c (B.tgt c) (B.at_ c).1).o.id := by
  obtain ⟨z1, z2, z3, z4, z5⟩ := rfs_zero h0
  obtain ⟨s1, s2, s3, s4, s5, s6, s7, s8⟩ := chk_sized z2 h2 hw
  obtain ⟨f1, f2, f3, f4⟩ := cmg_facts (c := c) (tg := B.tgt c) (side := (B.at_ c).1)
  have hid := hw.1
  have hpk := hw.2.2
  have hk := chk_kinds (c := c) (by rw [z2]; decide)
  have hty := cmg_ty (c := c) (tg := B.tgt c) (side := (B.at_ c).1)
  have hkd := cmg_kd (c := c) (tg := B.tgt c) (side := (B.at_ c).1) (fun e => ⟨(s8 e).1, (s8 e).2.1⟩) (by omega) (fun e => z1 (by omega)) (fun o ho => by
    have := (h.rests o (tgt_mem ho).1).1; unfold Ord.rests Rests at this; exact this.2.1)
  have hside := cmg_side (c := c) (tg := B.tgt c) (side := (B.at_ c).1) z2 h2 (fun e => z1 (by omega)) (fun hn => by
    cases ht : B.tgt c with
    | none => exact absurd ht hn
    | some o => exact (tgt_mem ht).2.1)
  have hgv := goes_vl (c := c) h z1
  have hgc := goes_cap B c
  have z3' := z3 h2
  have hfr : ∀ i ∈ ids ((B.goes c).bs ++ (B.goes c).ss), i < c.id := fun i hi => by
    obtain ⟨o, ho, rfl⟩ := List.mem_map.1 hi
    have := (h.rests o (Bk.goes_mem ho)).1
    unfold Ord.rests Rests at this; omega
  generalize cmg c (B.tgt c) (B.at_ c).1 = t at *
  unfold U at hid hpk
  refine ⟨⟨hside, by omega, by omega, by rw [f1, f2]; exact s4, fun hk' => ?_, ⟨by omega, by rw [f3]; exact hid⟩, hty, by omega, hkd, fun i hi => by rw [f3]; exact hfr i hi, fun h5 => ?_⟩, by omega⟩
  · show ((B.goes c).bs.length : Int) + (B.goes c).ss.length < (B.goes c).cap
    rw [hgc.1]
    by_cases h1 : c.k = 1
    · have := z4 h1 hk'
      have hl := B.goes_len c
      omega
    · have := goes_len1 h1 (z1 h1)
      have := h.len
      omega
  · have hr := z5 h2 h5
    have hm : ∀ s : Int, ∀ y ∈ (B.goes c).side s, ∃ x ∈ B.side s, x.pr = y.pr := fun s y hy => by
      unfold Bk.goes at hy
      split at hy
      · refine ⟨y, ?_, rfl⟩
        unfold Bk.put Bk.num Bk.side at *
        by_cases e1 : (B.at_ c).1 = 1 <;> by_cases e2 : s = 1 <;> simp [e1, e2] at hy ⊢
        · exact List.mem_of_mem_eraseIdx hy
        · exact hy
        · exact hy
        · exact List.mem_of_mem_eraseIdx hy
      · exact ⟨y, hy, rfl⟩
    show headReach t.side t.kind t.o.pr ((B.goes c).side (3 - t.side)) = false
    rcases hside with e | e
    · rw [e] at hr ⊢
      exact head_sub hr (hm 2) h.s2 (.inl rfl)
    · rw [e] at hr ⊢
      exact head_sub hr (hm 1) h.s1 (.inr rfl)
theorem does_vl {B : Bk} {c : Cm} (h : B.Vl) (hw : c.wf) : (B.does c).1.Vl := by
  unfold Bk.does
  by_cases h0 : B.why c ≠ 0
  · rw [if_pos h0]; exact num_vl _ h
  rw [if_neg h0]
  have h0' : B.why c = 0 := Decidable.of_not_not h0
  obtain ⟨z1, _⟩ := rfs_zero h0'
  have hgv := goes_vl (c := c) h z1
  by_cases h2 : c.k ≠ 2
  · rw [if_pos h2]
    obtain ⟨hV, hlt⟩ := cmg_V h hw h0' h2
    have hgc := goes_cap B c
    exact comes_vl (top_vl (num_vl _ hgv) (by show (B.goes c).high ≤ _; rw [hgc.2.2]; omega)) hV (Int.le_refl _)
  · rw [if_neg h2]; exact hgv
end Go.Proofs.Ytfajjkolhajldaa

/- A desk that is told all that a book tells, plain: it has just the book's orders. -/
namespace Go.Proofs.Ytfajjkolhajldaa
open Go.V
set_option linter.unusedVariables false
set_option linter.unusedSimpArgs false

/-! ### open orders, up to their order -/
theorem kdel_head {a : RO} {K : List RO} (h : ((a :: K).map RO.id).Nodup) : kdel RO.id a.id (a :: K) = K := by
  have h1 : ∀ x ∈ K, x.id ≠ a.id := fun x hx e => (List.nodup_cons.1 h).1 (e ▸ List.mem_map_of_mem hx)
  unfold kdel
  rw [List.filter_cons_of_neg (by simp)]
  exact List.filter_eq_self.2 fun x hx => by simpa using h1 x hx
theorem kupd_head {a : RO} {K : List RO} (f : RO → RO) (h : ((a :: K).map RO.id).Nodup) : kupd RO.id a.id f (a :: K) = f a :: K := by
  have h1 : ∀ x ∈ K, x.id ≠ a.id := fun x hx e => (List.nodup_cons.1 h).1 (e ▸ List.mem_map_of_mem hx)
  unfold kupd
  rw [List.map_cons, if_pos rfl]
  congr 1
  conv => rhs; rw [← List.map_id K]
  exact List.map_congr_left fun x hx => if_neg (h1 x hx)
/-- what is left of an open order -/
def rot (a : RO) (q : Int) : List RO := if a.r ≤ q then [] else [⟨a.id, a.mb, a.sd, a.r - q⟩]
theorem ord_of {D : Dk} {a : RO} {K : List RO} (hk : D.Ok) (hO : D.O.Perm (a :: K)) : D.ord a.id = some a := kfind_of_mem RO.id hk.o (hO.mem_iff.2 List.mem_cons_self)
theorem ord_mem {D : Dk} {a : RO} (hk : D.Ok) (h : a ∈ D.O) : D.ord a.id = some a := kfind_of_mem RO.id hk.o h
theorem less_perm {D : Dk} {a : RO} {K : List RO} {q : Int} (hk : D.Ok) (hO : D.O.Perm (a :: K)) (h0 : 0 ≤ q) (hr : a.r < 18446744073709551616) : (D.less a.id q).O.Perm (rot a q ++ K) ∧ (D.less a.id q).M = D.M := by
  have hn : ((a :: K).map RO.id).Nodup := (hO.map RO.id).nodup_iff.1 hk.o
  refine ⟨?_, (D.less_len a.id q).2⟩
  unfold Dk.less rot
  rw [ord_of hk hO]
  dsimp only
  split
  · show (kdel RO.id a.id D.O).Perm K
    have := hO.filter (fun x => decide (x.id ≠ a.id))
    have e := kdel_head hn
    unfold kdel at e ⊢
    rw [e] at this
    exact this
  · rename_i hq
    have := hO.map (fun x : RO => if x.id = a.id then { x with r := (x.r - q) % 18446744073709551616 } else x)
    have e := kupd_head (fun o : RO => { o with r := (o.r - q) % 18446744073709551616 }) hn
    unfold kupd at e ⊢
    rw [e] at this
    have e2 : (a.r - q) % 18446744073709551616 = a.r - q := by omega
    rw [e2] at this
    exact this
theorem trades_perm {D : Dk} {a : RO} {K : List RO} {q : Int} (b : Bool) (hk : D.Ok) (hO : D.O.Perm (a :: K)) (h0 : 0 ≤ q) (hr : a.r < 18446744073709551616) : (D.trades a.id q b).O.Perm (rot a q ++ K) := by
  unfold Dk.trades
  rw [ord_of hk hO]
  dsimp only
  refine (less_perm (hk.put _ _ (fun x => by split <;> rfl)) ?_ h0 hr).1
  rw [Dk.put_O]; exact hO
/-- an event that fits the open orders -/
structure Gn (D : Dk) (e : Ev) : Prop where
  ack : e.kind ≠ 1
  trd : e.kind = 3 → 0 < e.q ∧ (e.sd = 1 ∨ e.sd = 2) ∧ ∃ a ∈ D.O, ∃ b ∈ D.O, a.id = e.id ∧ b.id = e.other ∧ a.id ≠ b.id ∧ e.q ≤ a.r ∧ e.q ≤ b.r ∧ a.sd = e.sd ∧ b.sd = 3 - e.sd ∧ a.r < 18446744073709551616 ∧ b.r < 18446744073709551616
  cnc : e.kind = 4 → 0 ≤ e.q ∧ ∃ a ∈ D.O, a.id = e.id ∧ e.q ≤ a.r ∧ a.r < 18446744073709551616
def GL (D : Dk) : List Ev → Prop
  | [] => True
  | e :: l => Gn D e ∧ GL (D.ev e) l
theorem GL.app : ∀ {a b : List Ev} {D : Dk}, GL D a → GL (D.behind a) b → GL D (a ++ b)
  | [], b, D, _, h => h
  | e :: a, b, D, h, k => ⟨h.1, GL.app h.2 k⟩
theorem behind_app (D : Dk) (a b : List Ev) : D.behind (a ++ b) = (D.behind a).behind b := List.foldl_append
theorem ev_cancel (D : Dk) (id q r s : Int) : D.ev ((evCancel id q r).num s) = D.less id q := by
  unfold Dk.ev; rw [if_neg (by show ¬ (4 : Int) = 1; decide), if_neg (by show ¬ (4 : Int) = 3; decide), if_pos (show ((evCancel id q r).num s).kind = 4 from rfl)]; rfl
theorem ev_trade (D : Dk) (id o sd pr q s : Int) : D.ev ((evTrade id o sd pr q).num s) = (D.trades id q (decide (sd = 1))).trades o q (decide (sd ≠ 1)) := by
  unfold Dk.ev; rw [if_neg (by show ¬ (3 : Int) = 1; decide), if_pos (show ((evTrade id o sd pr q).num s).kind = 3 from rfl)]; rfl
theorem ev_refresh (D : Dk) (id pr q s : Int) : D.ev ((evRefresh id pr q).num s) = D := by
  unfold Dk.ev; rw [if_neg (by show ¬ (5 : Int) = 1; decide), if_neg (by show ¬ (5 : Int) = 3; decide), if_neg (by show ¬ (5 : Int) = 4; decide)]
theorem ev_reject (D : Dk) (id q r s : Int) : D.ev ((evReject id q r).num s) = D := by
  unfold Dk.ev; rw [if_neg (by show ¬ (2 : Int) = 1; decide), if_neg (by show ¬ (2 : Int) = 3; decide), if_neg (by show ¬ (2 : Int) = 4; decide)]
theorem behind_two (D : Dk) (e : Ev) (id pr q s : Int) : D.behind ([e] ++ [(evRefresh id pr q).num s]) = D.ev e := by rw [behind_app]; exact ev_refresh (D.ev e) id pr q s
theorem Gn.cancel {D : Dk} {a : RO} {q r s : Int} (h : a ∈ D.O) (h0 : 0 ≤ q) (hq : q ≤ a.r) (hr : a.r < 18446744073709551616) : Gn D ((evCancel a.id q r).num s) :=
  ⟨by show (4 : Int) ≠ 1; decide, fun h => absurd h (by show (4 : Int) ≠ 3; decide), fun _ => ⟨h0, a, h, rfl, hq, hr⟩⟩
theorem Gn.other {D : Dk} {e : Ev} (h1 : e.kind ≠ 1) (h3 : e.kind ≠ 3) (h4 : e.kind ≠ 4) : Gn D e := ⟨h1, fun h => absurd h h3, fun h => absurd h h4⟩
theorem cancel_perm {D : Dk} {a : RO} {K : List RO} {r s : Int} (hk : D.Ok) (hO : D.O.Perm (a :: K)) (h0 : 0 ≤ a.r) (hr : a.r < 18446744073709551616) : GL D [(evCancel a.id a.r r).num s] ∧ (D.behind [(evCancel a.id a.r r).num s]).O.Perm K ∧ (D.behind [(evCancel a.id a.r r).num s]).M = D.M := by
  refine ⟨⟨.cancel (hO.mem_iff.2 List.mem_cons_self) h0 (Int.le_refl _) hr, trivial⟩, ?_⟩
  show (D.ev ((evCancel a.id a.r r).num s)).O.Perm K ∧ (D.ev ((evCancel a.id a.r r).num s)).M = D.M
  rw [ev_cancel]
  have h := less_perm hk hO h0 hr
  unfold rot at h
  rw [if_pos (Int.le_refl _)] at h
  exact h
theorem trade_perm {D : Dk} {a b : RO} {K : List RO} {pr q s : Int} (hk : D.Ok) (hO : D.O.Perm (a :: b :: K)) (h0 : 0 < q) (hqa : q ≤ a.r) (hqb : q ≤ b.r) (hra : a.r < 18446744073709551616) (hrb : b.r < 18446744073709551616) (hs : a.sd = 1 ∨ a.sd = 2) (hsb : b.sd = 3 - a.sd) :
    Gn D ((evTrade a.id b.id a.sd pr q).num s) ∧ (D.ev ((evTrade a.id b.id a.sd pr q).num s)).O.Perm (rot a q ++ (rot b q ++ K)) := by
  have hn : ((a :: b :: K).map RO.id).Nodup := (hO.map RO.id).nodup_iff.1 hk.o
  have hne : a.id ≠ b.id := fun e => (List.nodup_cons.1 hn).1 (by rw [e]; simp)
  refine ⟨⟨by show (3 : Int) ≠ 1; decide, fun _ => ⟨h0, hs, a, hO.mem_iff.2 List.mem_cons_self, b, hO.mem_iff.2 (List.mem_cons_of_mem _ List.mem_cons_self), rfl, rfl, hne, hqa, hqb, rfl, hsb, hra, hrb⟩, fun h => absurd h (by show (3 : Int) ≠ 4; decide)⟩, ?_⟩
  rw [ev_trade]
  have h1 := trades_perm (q := q) (decide (a.sd = 1)) hk hO (by omega) hra
  have h2 : (rot a q ++ b :: K).Perm (b :: (rot a q ++ K)) := List.perm_middle
  have h3 := trades_perm (q := q) (decide (a.sd ≠ 1)) (hk.trades a.id q (decide (a.sd = 1))) (h1.trans h2) (by omega) hrb
  refine h3.trans ?_
  rw [← List.append_assoc, ← List.append_assoc]
  exact List.perm_append_comm.append_right _
/-! ### trading -/
abbrev ro (s : Int) (o : Ord) : RO := ⟨o.id, o.mb, s, o.v + o.hd⟩
/-- the order that comes, as long as something is left -/
def tkr (t : Tk) (left : Int) : List RO := if left = 0 then [] else [⟨t.o.id, t.o.mb, t.side, left⟩]
def deskL (t : Tk) (L : List Ord) (left : Int) (K : List RO) : List RO := tkr t left ++ (L.map (ro (3 - t.side)) ++ K)
theorem rot_tk {t : Tk} {left q : Int} (h : q ≤ left) : rot ⟨t.o.id, t.o.mb, t.side, left⟩ q = tkr t (left - q) := by
  unfold rot tkr
  by_cases e : left ≤ q
  · rw [if_pos e, if_pos (by omega)]
  · rw [if_neg e, if_neg (by omega)]
theorem step_desk {meet : Int} {t : Tk} {s s' : TS} {K : List RO} (h : s.step meet t = some s') (hOk : s.Ok) (hs : t.side = 1 ∨ t.side = 2) (hl : s.left ≤ 4294967295) {D : Dk} (hD : D.Ok) (hP : D.O.Perm (deskL t s.L s.left K)) :
    ∃ l, s'.evs = s.evs ++ l ∧ GL D l ∧ (D.behind l).O.Perm (deskL t s'.L s'.left K) := by
  obtain ⟨L, left, seq, evs⟩ := s
  unfold TS.step at h
  simp only at h hl hP ⊢
  cases L with
  | nil => cases h
  | cons f rest =>
    simp only at h
    have hG := hOk.good f List.mem_cons_self
    unfold Ord.G at hG
    split at h
    case isFalse => cases h
    rename_i hc
    have h0 := hc.1
    have hP1 : D.O.Perm (⟨t.o.id, t.o.mb, t.side, left⟩ :: ro (3 - t.side) f :: (rest.map (ro (3 - t.side)) ++ K)) := by
      unfold deskL tkr at hP
      rw [if_neg (by omega)] at hP
      exact hP
    have hP2 : D.O.Perm (ro (3 - t.side) f :: ⟨t.o.id, t.o.mb, t.side, left⟩ :: (rest.map (ro (3 - t.side)) ++ K)) := hP1.trans (.swap _ _ _)
    have ht0 : ∀ L' : List Ord, deskL t L' 0 K = L'.map (ro (3 - t.side)) ++ K := fun L' => by unfold deskL tkr; rw [if_pos rfl]; rfl
    have htl : ∀ L' : List Ord, deskL t L' left K = ⟨t.o.id, t.o.mb, t.side, left⟩ :: (L'.map (ro (3 - t.side)) ++ K) := fun L' => by unfold deskL tkr; rw [if_neg (by omega)]; rfl
    simp only [Option.some.injEq] at h
    subst h
    split
    · simp only [TS.meets]
      by_cases m1 : meet = 1
      · rw [if_pos m1, if_neg (show ¬ meet = 2 by omega)]
        obtain ⟨g1, g2, -⟩ := cancel_perm (r := 5) (s := nx seq) hD hP1 (by show 0 ≤ left; omega) (by show left < _; omega)
        exact ⟨_, rfl, g1, by rw [ht0]; exact g2⟩
      · rw [if_neg m1]
        obtain ⟨g1, g2, -⟩ := cancel_perm (r := 5) (s := nx seq) hD hP2 (by show 0 ≤ f.v + f.hd; omega) (by show f.v + f.hd < _; omega)
        by_cases m2 : meet = 2
        · rw [if_pos m2]
          exact ⟨_, rfl, g1, by show List.Perm _ (deskL t rest left K); rw [htl]; exact g2⟩
        · rw [if_neg m2]
          obtain ⟨g3, g4, -⟩ := cancel_perm (r := 5) (s := nx (nx seq)) (hD.behind _) g2 (by show 0 ≤ left; omega) (by show left < _; omega)
          exact ⟨_, List.append_assoc _ _ _, g1.app g3, by rw [behind_app, ht0]; exact g4⟩
    · simp only [TS.hit]
      have hq1 : min left f.v ≤ left := Int.min_le_left _ _
      have hq2 : min left f.v ≤ f.v := Int.min_le_right _ _
      have hq0 : 0 < min left f.v := by omega
      obtain ⟨g1, g2⟩ := trade_perm (pr := f.pr) (q := min left f.v) (s := nx seq) hD hP1 hq0 hq1 (by show _ ≤ f.v + f.hd; omega) (by show left < _; omega) (by show f.v + f.hd < _; omega) hs rfl
      rw [rot_tk hq1] at g2
      split
      · rename_i c1
        have e1 : min left f.v = left := by omega
        have e2 : rot (ro (3 - t.side) f) (min left f.v) = [ro (3 - t.side) (f.less (min left f.v))] := by
          unfold rot; rw [if_neg (by show ¬ f.v + f.hd ≤ _; omega)]
          have : f.v + f.hd - min left f.v = f.v - min left f.v + f.hd := by omega
          simp only [ro, Ord.less, this]
        rw [e2] at g2
        exact ⟨_, rfl, ⟨g1, trivial⟩, by unfold deskL; exact g2⟩
      · rename_i c1
        have e1 : min left f.v = f.v := by omega
        split
        · rename_i c2
          have e2 : rot (ro (3 - t.side) f) (min left f.v) = [ro (3 - t.side) f.next] := by
            unfold rot; rw [if_neg (by show ¬ f.v + f.hd ≤ _; omega)]
            have : f.v + f.hd - min left f.v = min f.pk f.hd + (f.hd - min f.pk f.hd) := by omega
            simp only [ro, Ord.next, this]
          rw [e2] at g2
          refine ⟨_, List.append_assoc _ _ _, ⟨g1, .other (by show (5 : Int) ≠ 1; decide) (by show (5 : Int) ≠ 3; decide) (by show (5 : Int) ≠ 4; decide), trivial⟩, ?_⟩
          rw [behind_two]
          refine g2.trans ?_
          unfold deskL
          refine List.Perm.append_left _ ?_
          rw [← List.append_assoc]
          refine List.Perm.append_right _ ?_
          exact ((rst_perm (3 - t.side) f.next rest).map (ro (3 - t.side))).symm
        · rename_i c2
          have e2 : rot (ro (3 - t.side) f) (min left f.v) = [] := by
            unfold rot; rw [if_pos (by show f.v + f.hd ≤ _; omega)]
          rw [e2] at g2
          exact ⟨_, rfl, ⟨g1, trivial⟩, by unfold deskL; exact g2⟩
theorem run_desk {meet : Int} {t : Tk} {s z : TS} {K : List RO} (h : TRun meet t s z) (hs : t.side = 1 ∨ t.side = 2) (hOk : s.Ok) (hl : s.left ≤ 4294967295) {D : Dk} (hD : D.Ok) (hP : D.O.Perm (deskL t s.L s.left K)) :
    ∃ l, z.evs = s.evs ++ l ∧ GL D l ∧ (D.behind l).O.Perm (deskL t z.L z.left K) := by
  induction h generalizing D with
  | stop _ => exact ⟨[], by simp, trivial, hP⟩
  | step h1 _ ih =>
    obtain ⟨l, a1, a2, a3⟩ := step_desk h1 hOk hs hl hD hP
    obtain ⟨o1, -, -, -, o2⟩ := hOk.step h1
    obtain ⟨l', b1, b2, b3⟩ := ih o1 (by omega) (hD.behind l) a3
    exact ⟨l ++ l', by rw [b1, a1, List.append_assoc], a2.app b2, by rw [behind_app]; exact b3⟩
/-! ### a book's orders -/
def bros (B : Bk) : List RO := B.bs.map (ro 1) ++ B.ss.map (ro 2)
theorem bros_side (B : Bk) {s : Int} (hs : s = 1 ∨ s = 2) : (bros B).Perm ((B.side (3 - s)).map (ro (3 - s)) ++ (B.side s).map (ro s)) := by
  rcases hs with rfl | rfl
  · exact List.perm_append_comm
  · exact .refl _
theorem bros_put (B : Bk) {s : Int} (hs : s = 1 ∨ s = 2) (l : List Ord) : (bros (B.put s l)).Perm (l.map (ro s) ++ (B.side (3 - s)).map (ro (3 - s))) := by
  rcases hs with rfl | rfl
  · exact .refl _
  · exact List.perm_append_comm
theorem side_put (B : Bk) {s : Int} (hs : s = 1 ∨ s = 2) (l : List Ord) : (B.put (3 - s) l).side s = B.side s ∧ (B.put (3 - s) l).side (3 - s) = l ∧ 3 - (3 - s) = s ∧ (3 - s = 1 ∨ 3 - s = 2) := by
  rcases hs with rfl | rfl
  · exact ⟨rfl, rfl, rfl, .inr rfl⟩
  · exact ⟨rfl, rfl, rfl, .inl rfl⟩
theorem restOf_ro (s : Int) (o : Ord) (left : Int) : ro s (restOf o left) = ⟨o.id, o.mb, s, left⟩ := by
  unfold restOf ro
  dsimp only
  congr 1
  omega
theorem comes_desk {B : Bk} {evs : List Ev} {t : Tk} (hOk : (B.ts evs t).Ok) (hs : t.side = 1 ∨ t.side = 2) (h0 : 0 < t.left) (hl : t.left ≤ 4294967295) {D : Dk} (hD : D.Ok) (hP : D.O.Perm (⟨t.o.id, t.o.mb, t.side, t.left⟩ :: bros B)) :
    ∃ l, (B.comes evs t).2 = evs ++ l ∧ GL D l ∧ (D.behind l).O.Perm (bros (B.comes evs t).1) := by
  have hP' : D.O.Perm (deskL t (B.ts evs t).L (B.ts evs t).left ((B.side t.side).map (ro t.side))) := by
    unfold deskL tkr
    rw [if_neg (by show ¬ t.left = 0; omega)]
    exact hP.trans ((bros_side B hs).cons _)
  obtain ⟨zok, -, -, zl⟩ := (tr_run (meet := B.meet) (t := t) hOk).ok hOk
  obtain ⟨l, a1, a2, a3⟩ := run_desk (tr_run (meet := B.meet) (t := t) hOk) hs hOk hl hD hP'
  unfold Bk.comes
  split
  · obtain ⟨g1, g2, -⟩ := cancel_perm (r := 4) (s := nx B.seq) hD hP (by show 0 ≤ t.left; omega) (by show t.left < _; omega)
    exact ⟨_, rfl, g1, g2⟩
  · simp only
    have hl' : (tr B.meet t (B.ts evs t)).left ≤ t.left := zl
    have hlo := zok.lo
    generalize tr B.meet t (B.ts evs t) = z at *
    obtain ⟨p1, p2, p3, p4⟩ := side_put B hs z.L
    have hT : (bros (B.traded t z)).Perm (z.L.map (ro (3 - t.side)) ++ (B.side t.side).map (ro t.side)) := by
      have := bros_put B p4 z.L
      rw [p3] at this
      exact this
    split
    · rename_i c
      refine ⟨l, a1, a2, ?_⟩
      unfold deskL tkr at a3
      rw [if_pos c] at a3
      exact a3.trans hT.symm
    · rename_i c
      have hz : (D.behind l).O.Perm (⟨t.o.id, t.o.mb, t.side, z.left⟩ :: bros (B.traded t z)) := by
        unfold deskL tkr at a3
        rw [if_neg c] at a3
        exact a3.trans (hT.symm.cons _)
      split
      · obtain ⟨g1, g2, -⟩ := cancel_perm (r := 3) (s := nx (B.traded t z).seq) (hD.behind l) hz (by show 0 ≤ z.left; omega) (by show z.left < _; omega)
        exact ⟨l ++ [(evCancel t.o.id z.left 3).num (nx (B.traded t z).seq)], by rw [a1, List.append_assoc]; rfl, a2.app g1, by rw [behind_app]; exact g2⟩
      · refine ⟨l, a1, a2, hz.trans ?_⟩
        have q1 := bros_put (B.traded t z) hs (rst t.side (restOf t.o z.left) ((B.traded t z).side t.side))
        refine List.Perm.trans ?_ q1.symm
        have q2 := (rst_perm t.side (restOf t.o z.left) ((B.traded t z).side t.side)).map (ro t.side)
        refine List.Perm.trans ?_ (q2.append_right _).symm
        rw [List.map_cons, restOf_ro]
        refine List.Perm.cons _ ?_
        exact (bros_side (B.traded t z) hs).trans List.perm_append_comm
theorem at_perm {l : List Ord} {i : Nat} (hi : i < l.length) : (l[i] :: l.eraseIdx i).Perm l := by
  rw [List.eraseIdx_eq_take_drop_succ]
  refine List.perm_middle.symm.trans (.of_eq ?_)
  rw [← List.drop_eq_getElem_cons hi, List.take_append_drop]
/-! ### the order that a command speaks of goes -/
theorem goes_desk {B : Bk} {c : Cm} (hk : c.k ≠ 1) {o : Ord} (ht : B.tgt c = some o) (hG : ∀ o ∈ B.bs ++ B.ss, o.G) {D : Dk} (hD : D.Ok) (hP : D.O.Perm (bros B)) :
    ∃ t : RO, t = ro (B.at_ c).1 o ∧ D.ord c.tg = some t ∧ D.O.Perm (t :: (D.behind (B.gone c)).O) ∧ (D.behind (B.gone c)).M = D.M ∧ GL D (B.gone c) ∧ (D.behind (B.gone c)).O.Perm (bros (B.goes c)) := by
  rcases at_spec B c with ⟨_, h, _⟩ | ⟨s, hs, i, hi, e, e2, e3⟩
  · rw [h] at ht; cases ht
  rw [ht] at e2
  cases e2
  have ho := hG _ (B.side_sub s _ (List.getElem_mem hi))
  have hb : (bros B).Perm (ro s (B.side s)[i] :: bros (B.put s ((B.side s).eraseIdx i))) := by
    have h1 := (at_perm hi).map (ro s)
    refine ((bros_side B hs).trans List.perm_append_comm).trans ?_
    refine (h1.symm.append_right _).trans ?_
    rw [List.map_cons]
    exact .cons _ (bros_put B hs _).symm
  generalize (B.side s)[i] = o at *
  unfold Ord.G at ho
  have hP1 := hP.trans hb
  obtain ⟨g1, g2, g3⟩ := cancel_perm (r := if c.k = 3 then 2 else 1) (s := nx B.seq) hD hP1 (by show 0 ≤ o.v + o.hd; omega) (by show o.v + o.hd < _; omega)
  have eg : B.gone c = [(evCancel c.tg (o.v + o.hd) (if c.k = 3 then 2 else 1)).num (nx B.seq)] := by
    unfold Bk.gone; rw [if_pos hk, ht]
  have eo : B.goes c = (B.put s ((B.side s).eraseIdx i)).num (nx B.seq) := by
    unfold Bk.goes; rw [if_pos hk, e]; rfl
  rw [eg, eo, e, ← e3]
  have : D.ord o.id = some (ro s o) := ord_of hD hP1
  exact ⟨ro s o, rfl, this, hP1.trans (g2.symm.cons _), g3, g1, g2⟩
/-! ### all that a command does -/
theorem ack_perm {D : Dk} {e : Ev} {K : List RO} (h1 : e.kind = 1) (hq : 0 < e.q) (hf : ∀ o ∈ D.O, o.id ≠ e.id) : (D.ev e).O = D.O ++ [⟨e.id, e.mb, e.sd, e.q⟩] ∧ (D.ev e).M = D.M := by
  unfold Dk.ev
  rw [if_pos h1, if_pos hq]
  have : kdel RO.id e.id D.O = D.O := List.filter_eq_self.2 fun x hx => by simpa using hf x hx
  rw [this]
  exact ⟨rfl, rfl⟩
/-- an order was taken: what was told ahead of it, its event, what was told behind -/
structure Took (D : Dk) (c : Cm) (g : List Ev) (e : Ev) (l : List Ev) : Prop where
  k : e.kind = 1
  q : e.q = c.q ∧ 1 ≤ c.q ∧ c.q ≤ 4294967295
  sd : e.sd = 1 ∨ e.sd = 2
  fresh : ∀ o ∈ D.O, o.id ≠ e.id
  gg : GL D g
  ll : GL (D.behind (g ++ [e])) l
  how : (c.k = 1 ∧ g = [] ∧ e.mb = c.mb ∧ e.sd = c.sd) ∨ (c.k = 3 ∧ ∃ t, D.ord c.tg = some t ∧ e.mb = t.mb ∧ e.sd = t.sd ∧ D.O.Perm (t :: (D.behind g).O) ∧ (D.behind g).M = D.M)
theorem does_desk {B : Bk} {c : Cm} (h : B.Vl) (hw : c.wf) {D : Dk} (hD : D.Ok) (hP : D.O.Perm (bros B)) :
    (D.behind (B.does c).2).O.Perm (bros (B.does c).1) ∧ (GL D (B.does c).2 ∨ ∃ g e l, (B.does c).2 = g ++ e :: l ∧ Took D c g e l) := by
  unfold Bk.does
  by_cases h0 : B.why c ≠ 0
  · rw [if_pos h0]
    refine ⟨?_, .inl ⟨.other (by show (2 : Int) ≠ 1; decide) (by show (2 : Int) ≠ 3; decide) (by show (2 : Int) ≠ 4; decide), trivial⟩⟩
    have e := ev_reject D (if c.k = 2 then 0 else c.id) (if c.k = 1 then 0 else c.tg) (B.why c) (nx B.seq)
    show (D.ev ((evReject (if c.k = 2 then 0 else c.id) (if c.k = 1 then 0 else c.tg) (B.why c)).num (nx B.seq))).O.Perm (bros B)
    rw [e]; exact hP
  rw [if_neg h0]
  have h0' : B.why c = 0 := Decidable.of_not_not h0
  obtain ⟨z1, z2, -⟩ := rfs_zero h0'
  have hG : ∀ o ∈ B.bs ++ B.ss, o.G := fun o ho => (h.rests o ho).G
  by_cases h2 : c.k ≠ 2
  · rw [if_pos h2]
    obtain ⟨hV, hlt⟩ := cmg_V h hw h0' h2
    have hgc := goes_cap B c
    have hgv := goes_vl (c := c) h z1
    have hk := chk_kinds (c := c) (by rw [z2]; decide)
    obtain ⟨f1, f2, f3, f4⟩ := cmg_facts (c := c) (tg := B.tgt c) (side := (B.at_ c).1)
    have hfr : ∀ o ∈ D.O, o.id ≠ c.id := fun o ho => by
      have := hP.mem_iff.1 ho
      unfold bros at this
      rw [List.mem_append, List.mem_map, List.mem_map] at this
      have key : ∃ x ∈ B.bs ++ B.ss, x.id = o.id := by
        rcases this with ⟨x, hx, rfl⟩ | ⟨x, hx, rfl⟩
        · exact ⟨x, List.mem_append_left _ hx, rfl⟩
        · exact ⟨x, List.mem_append_right _ hx, rfl⟩
      obtain ⟨x, hx, e⟩ := key
      have := (h.rests x hx).1
      unfold Ord.rests Rests at this
      omega
    have hG1 : GL D (B.gone c) ∧ (D.behind (B.gone c)).O.Perm (bros (B.goes c)) ∧ ((c.k = 1 ∧ B.gone c = [] ∧ (cmg c (B.tgt c) (B.at_ c).1).o.mb = c.mb ∧ (cmg c (B.tgt c) (B.at_ c).1).side = c.sd) ∨ (c.k = 3 ∧ ∃ t, D.ord c.tg = some t ∧ (cmg c (B.tgt c) (B.at_ c).1).o.mb = t.mb ∧ (cmg c (B.tgt c) (B.at_ c).1).side = t.sd ∧ D.O.Perm (t :: (D.behind (B.gone c)).O) ∧ (D.behind (B.gone c)).M = D.M)) := by
      by_cases k1 : c.k = 1
      · have e1 : B.gone c = [] := by unfold Bk.gone; rw [if_neg (by omega)]
        have e2 : B.goes c = B := by unfold Bk.goes; rw [if_neg (by omega)]
        rw [e1, e2]
        refine ⟨trivial, hP, .inl ⟨k1, rfl, ?_⟩⟩
        unfold cmg
        cases B.tgt c with
        | none => exact ⟨rfl, rfl⟩
        | some o => simp only; rw [if_neg (by omega)]; exact ⟨rfl, rfl⟩
      · have k3 : c.k = 3 := by omega
        cases ht : B.tgt c with
        | none => exact absurd ht (z1 k1)
        | some o =>
          obtain ⟨t, e0, e1, e2, e3, e4, e5⟩ := goes_desk k1 ht hG hD hP
          refine ⟨e4, e5, .inr ⟨k3, t, e1, ?_, ?_, e2, e3⟩⟩
          · unfold cmg; simp only; rw [if_pos k3, e0]
          · unfold cmg; simp only; rw [if_pos k3, e0]
    have hdk := hD.behind (B.gone c)
    have hf2 : ∀ o ∈ (D.behind (B.gone c)).O, o.id ≠ c.id := fun o ho e => by
      rcases hG1.2.2 with ⟨-, e1, -⟩ | ⟨-, t, -, -, -, hp, -⟩
      · rw [e1] at ho; exact hfr o ho e
      · exact hfr o (hp.mem_iff.2 (List.mem_cons_of_mem _ ho)) e
    generalize cmg c (B.tgt c) (B.at_ c).1 = tk at *
    have hvl := top_vl (num_vl (nx (B.goes c).seq) hgv) (show (B.goes c).high ≤ tk.o.id by rw [hgc.2.2]; omega)
    have hOk := ts_ok' (evs := B.gone c ++ [(evAck tk).num (nx (B.goes c).seq)]) hvl hV
    have hq := hV.q
    have hak := ack_perm (D := D.behind (B.gone c)) (e := (evAck tk).num (nx (B.goes c).seq)) (K := []) rfl (by show 0 < tk.left; omega) (by intro o ho; show o.id ≠ tk.o.id; rw [f3]; exact hf2 o ho)
    obtain ⟨g1, g2, g3⟩ := hG1
    have hb : D.behind (B.gone c ++ [(evAck tk).num (nx (B.goes c).seq)]) = (D.behind (B.gone c)).ev ((evAck tk).num (nx (B.goes c).seq)) := behind_snoc _ _ _
    have hP2 : (D.behind (B.gone c ++ [(evAck tk).num (nx (B.goes c).seq)])).O.Perm (⟨tk.o.id, tk.o.mb, tk.side, tk.left⟩ :: bros (((B.goes c).num (nx (B.goes c).seq)).top tk.o.id)) := by
      rw [hb, hak.1]
      exact List.perm_append_comm.trans (g2.cons _)
    obtain ⟨l, a1, a2, a3⟩ := comes_desk hOk hV.sd (by omega) hq.2 (hD.behind _) hP2
    refine ⟨by rw [a1, behind_app]; exact a3, .inr ⟨B.gone c, (evAck tk).num (nx (B.goes c).seq), l, by rw [a1, List.append_assoc]; rfl, ⟨rfl, ⟨f1, by omega, by omega⟩, hV.sd, fun o ho => by show o.id ≠ tk.o.id; rw [f3]; exact hfr o ho, g1, a2, g3⟩⟩⟩
  · rw [if_neg h2]
    have k2 : c.k = 2 := Decidable.of_not_not h2
    cases ht : B.tgt c with
    | none => exact absurd ht (z1 (by omega))
    | some o =>
      obtain ⟨t, e0, e1, e2, e3, e4, e5⟩ := goes_desk (by omega) ht hG hD hP
      exact ⟨e5, .inl e4⟩
end Go.Proofs.Ytfajjkolhajldaa

/- A desk that is told all that a book tells, plain: what members bought and sold, who is known, how far each one goes. -/
namespace Go.Proofs.Ytfajjkolhajldaa
open Go.V
set_option linter.unusedVariables false
set_option linter.unusedSimpArgs false

theorem nodup_sub : ∀ {a b : List Int}, a.Nodup → (∀ x ∈ a, x ∈ b) → a.length ≤ b.length
  | [], b, _, _ => by simp
  | x :: a, b, h, hs => by
    obtain ⟨h1, h2⟩ := List.nodup_cons.1 h
    have hx := hs x List.mem_cons_self
    have := nodup_sub (a := a) (b := b.erase x) h2 fun y hy => (List.mem_erase_of_ne (fun e => h1 (by rw [← e]; exact hy))).2 (hs y (List.mem_cons_of_mem _ hy))
    rw [List.length_erase_of_mem hx] at this
    have hb := List.length_pos_of_mem hx
    rw [List.length_cons]; omega
/-! ### entries -/
theorem Dk.mem_put (D : Dk) (n : Int) (f : RM → RM) (hf : ∀ x, (f x).n = x.n) (j : Int) : (D.put n f).mem j = if j = n then f (D.mem n) else D.mem j := by
  unfold Dk.mem
  rw [D.put_find n f hf j]
  by_cases h : j = n
  · rw [if_pos h, if_pos h]; rfl
  · rw [if_neg h, if_neg h]
theorem Dk.mem_n (D : Dk) (j : Int) : (D.mem j).n = j := by
  unfold Dk.mem
  cases h : kfind RM.n j D.M with
  | none => rfl
  | some m => exact kfind_key RM.n h
theorem mem_eq {D D' : Dk} (h : D'.M = D.M) (j : Int) : D'.mem j = D.mem j := by unfold Dk.mem; rw [h]
theorem less_M (D : Dk) (id q : Int) : (D.less id q).M = D.M := (D.less_len id q).2
theorem trd_n (m : RM) (q : Int) (b : Bool) : (m.trd q b).n = m.n := by unfold RM.trd; split <;> rfl
theorem trades_some {D : Dk} {id q : Int} {b : Bool} {a : RO} (h : D.ord id = some a) : D.trades id q b = (D.put a.mb fun m => m.trd q b).less id q := by
  unfold Dk.trades; rw [h]
theorem trades_mem {D : Dk} {id q : Int} {b : Bool} {a : RO} (h : D.ord id = some a) (j : Int) : (D.trades id q b).mem j = if j = a.mb then (D.mem a.mb).trd q b else D.mem j := by
  rw [trades_some h, mem_eq (less_M _ _ _), D.mem_put _ _ (fun m => trd_n m q b)]
theorem trades_none {D : Dk} {id q : Int} {b : Bool} (h : D.ord id = none) : D.trades id q b = D := by unfold Dk.trades; rw [h]
theorem ord_less_ne (D : Dk) {id j q : Int} (h : j ≠ id) : (D.less id q).ord j = D.ord j := by
  unfold Dk.less
  split
  · rfl
  · split
    · show kfind RO.id j (kdel RO.id id D.O) = _
      rw [kfind_del, if_neg h]; rfl
    · show kfind RO.id j (kupd RO.id id (fun o => { o with r := (o.r - q) % 18446744073709551616 }) D.O) = _
      rw [kfind_upd RO.id id (fun o : RO => { o with r := (o.r - q) % 18446744073709551616 }) (fun _ => rfl), if_neg h]; rfl
theorem ord_trades_ne (D : Dk) {id j q : Int} {b : Bool} (h : j ≠ id) : (D.trades id q b).ord j = D.ord j := by
  cases ho : D.ord id with
  | none => rw [trades_none ho]
  | some a =>
    rw [trades_some ho, ord_less_ne _ h]
    unfold Dk.ord; rw [Dk.put_O]
theorem ord_in {D : Dk} {id : Int} {a : RO} (h : D.ord id = some a) : a ∈ D.O ∧ a.id = id := ⟨kfind_mem RO.id h, kfind_key RO.id h⟩
/-! ### whose the orders are -/
theorem less_from (D : Dk) (id q : Int) : ∀ o ∈ (D.less id q).O, ∃ p ∈ D.O, p.id = o.id ∧ p.mb = o.mb ∧ p.sd = o.sd := by
  intro o ho
  unfold Dk.less at ho
  split at ho
  · exact ⟨o, ho, rfl, rfl, rfl⟩
  · split at ho
    · exact ⟨o, (List.mem_filter.1 ho).1, rfl, rfl, rfl⟩
    · obtain ⟨x, hx, rfl⟩ := List.mem_map.1 (show o ∈ kupd RO.id id (fun o => { o with r := (o.r - q) % 18446744073709551616 }) D.O from ho)
      refine ⟨x, hx, ?_⟩
      split <;> exact ⟨rfl, rfl, rfl⟩
theorem trades_from (D : Dk) (id q : Int) (b : Bool) : ∀ o ∈ (D.trades id q b).O, ∃ p ∈ D.O, p.id = o.id ∧ p.mb = o.mb ∧ p.sd = o.sd := by
  intro o ho
  cases h : D.ord id with
  | none => rw [trades_none h] at ho; exact ⟨o, ho, rfl, rfl, rfl⟩
  | some a =>
    rw [trades_some h] at ho
    obtain ⟨p, hp, e⟩ := less_from _ _ _ o ho
    rw [Dk.put_O] at hp
    exact ⟨p, hp, e⟩
/-- members and owners are of a list -/
def InS (S : List Int) (D : Dk) : Prop := (∀ m ∈ D.M, m.n ∈ S) ∧ ∀ o ∈ D.O, o.mb ∈ S
theorem InS.put {S : List Int} {D : Dk} (h : InS S D) (n : Int) (f : RM → RM) (hf : ∀ x, (f x).n = x.n) (hn : n ∈ S) : InS S (D.put n f) := by
  refine ⟨?_, by rw [Dk.put_O]; exact h.2⟩
  unfold Dk.put
  split
  · intro m hm
    obtain ⟨x, hx, rfl⟩ := List.mem_map.1 (show m ∈ kupd RM.n n f D.M from hm)
    split
    · rw [hf]; exact h.1 x hx
    · exact h.1 x hx
  · intro m hm
    rcases List.mem_append.1 (show m ∈ D.M ++ [f (rm0 n)] from hm) with hm | hm
    · exact h.1 m hm
    · rw [List.mem_singleton.1 hm, hf]; exact hn
theorem InS.less {S : List Int} {D : Dk} (h : InS S D) (id q : Int) : InS S (D.less id q) :=
  ⟨by rw [less_M]; exact h.1, fun o ho => by obtain ⟨p, hp, -, e, -⟩ := less_from D id q o ho; rw [← e]; exact h.2 p hp⟩
theorem InS.trades {S : List Int} {D : Dk} (h : InS S D) (id q : Int) (b : Bool) : InS S (D.trades id q b) := by
  cases ho : D.ord id with
  | none => rw [trades_none ho]; exact h
  | some a =>
    rw [trades_some ho]
    exact (h.put _ _ (fun m => trd_n m q b) (h.2 a (ord_in ho).1)).less _ _
theorem InS.ev {S : List Int} {D : Dk} (h : InS S D) (e : Ev) (hk : e.kind ≠ 1) : InS S (D.ev e) := by
  unfold Dk.ev
  rw [if_neg hk]
  split
  · exact (h.trades _ _ _).trades _ _ _
  · split
    · exact h.less _ _
    · exact h
theorem InS.gl {S : List Int} : ∀ {l : List Ev} {D : Dk}, InS S D → GL D l → InS S (D.behind l)
  | [], D, h, _ => h
  | e :: l, D, h, g => InS.gl (D := D.ev e) (l := l) (h.ev e g.1.ack) g.2
theorem InS.mono {S T : List Int} {D : Dk} (h : InS S D) (hs : ∀ x ∈ S, x ∈ T) : InS T D := ⟨fun m hm => hs _ (h.1 m hm), fun o ho => hs _ (h.2 o ho)⟩
theorem Took.mb {D : Dk} {c : Cm} {g l : List Ev} {e : Ev} (h : Took D c g e l) : e.mb = c.mb ∨ ∃ t ∈ D.O, e.mb = t.mb := by
  rcases h.how with ⟨_, _, e1, _⟩ | ⟨_, t, e1, e2, _⟩
  · exact .inl e1
  · exact .inr ⟨t, (ord_in e1).1, e2⟩
theorem Took.ack {D : Dk} {c : Cm} {g l : List Ev} {e : Ev} (h : Took D c g e l) (hk : D.Ok) : (D.behind (g ++ [e])).O = (D.behind g).O ++ [⟨e.id, e.mb, e.sd, e.q⟩] ∧ (D.behind (g ++ [e])).M = (D.behind g).M := by
  rw [behind_snoc]
  refine ack_perm (K := []) h.k (by have := h.q; omega) fun o ho hid => ?_
  rcases h.how with ⟨_, e1, _⟩ | ⟨_, t, _, _, _, hp, _⟩
  · rw [e1] at ho; exact h.fresh o ho hid
  · exact h.fresh o (hp.mem_iff.2 (List.mem_cons_of_mem _ ho)) hid
theorem InS.took {S : List Int} {D : Dk} {c : Cm} {g l : List Ev} {e : Ev} (h : InS S D) (hk : D.Ok) (k : Took D c g e l) : InS (c.mb :: S) (D.behind (g ++ e :: l)) := by
  have h1 := (h.gl k.gg).mono fun x hx => List.mem_cons_of_mem c.mb hx
  have h2 : InS (c.mb :: S) (D.behind (g ++ [e])) := by
    obtain ⟨a1, a2⟩ := k.ack hk
    refine ⟨by rw [a2]; exact h1.1, fun o ho => ?_⟩
    rw [a1] at ho
    rcases List.mem_append.1 ho with ho | ho
    · exact h1.2 o ho
    · rw [List.mem_singleton.1 ho]
      show e.mb ∈ _
      rcases k.mb with q | ⟨t, ht, q⟩
      · rw [q]; exact List.mem_cons_self
      · rw [q]; exact List.mem_cons_of_mem _ (h.2 t ht)
  rw [show g ++ e :: l = (g ++ [e]) ++ l by simp, behind_app]
  exact h2.gl k.ll
theorem InS.does {S : List Int} {D : Dk} {B : Bk} {c : Cm} (h : InS S D) (hD : D.Ok) (hV : B.Vl) (hw : c.wf) (hP : D.O.Perm (bros B)) : InS (c.mb :: S) (D.behind (B.does c).2) := by
  rcases (does_desk hV hw hD hP).2 with g | ⟨g, e, l, e1, k⟩
  · exact (h.gl g).mono fun x hx => List.mem_cons_of_mem _ hx
  · rw [e1]; exact h.took hD k
theorem InS.len {S : List Int} {D : Dk} (h : InS S D) (hk : D.Ok) : D.M.length ≤ S.length := by
  rw [← List.length_map (f := RM.n)]
  exact nodup_sub hk.m fun x hx => by obtain ⟨m, hm, rfl⟩ := List.mem_map.1 hx; exact h.1 m hm
/-! ### who was set stays so -/
def stn (D : Dk) : Nat := (D.M.filter RM.st).length
theorem stn_put (D : Dk) (n : Int) (f : RM → RM) (hs : ∀ x, (f x).st = x.st) : stn (D.put n f) = stn D := by
  unfold stn Dk.put
  split
  · show ((kupd RM.n n f D.M).filter RM.st).length = _
    generalize D.M = L
    induction L with
    | nil => rfl
    | cons x L ih =>
      unfold kupd at *
      rw [List.map_cons, List.filter_cons, List.filter_cons]
      have : (if x.n = n then f x else x).st = x.st := by split <;> simp [hs]
      rw [this]
      split <;> simp [ih]
  · show ((D.M ++ [f (rm0 n)]).filter RM.st).length = _
    rw [List.filter_append, List.filter_cons_of_neg (by rw [hs]; simp)]; simp
theorem trd_st (m : RM) (q : Int) (b : Bool) : (m.trd q b).st = m.st ∧ (m.trd q b).l = m.l ∧ (m.trd q b).kl = m.kl := by unfold RM.trd; split <;> exact ⟨rfl, rfl, rfl⟩
theorem stn_trades (D : Dk) (id q : Int) (b : Bool) : stn (D.trades id q b) = stn D ∧ ∀ j, ((D.trades id q b).mem j).st = (D.mem j).st := by
  cases ho : D.ord id with
  | none => rw [trades_none ho]; exact ⟨rfl, fun _ => rfl⟩
  | some a =>
    refine ⟨?_, fun j => ?_⟩
    · rw [trades_some ho]
      unfold stn
      rw [less_M]
      exact stn_put D _ _ fun m => (trd_st m q b).1
    · rw [trades_mem ho]
      split
      · rename_i e; rw [e]; exact (trd_st _ q b).1
      · rfl
theorem stn_ev (D : Dk) (e : Ev) : stn (D.ev e) = stn D ∧ ∀ j, ((D.ev e).mem j).st = (D.mem j).st := by
  unfold Dk.ev
  split
  · split
    · exact ⟨rfl, fun _ => rfl⟩
    · exact ⟨rfl, fun _ => rfl⟩
  · split
    · obtain ⟨a1, a2⟩ := stn_trades D e.id e.q (decide (e.sd = 1))
      obtain ⟨b1, b2⟩ := stn_trades (D.trades e.id e.q (decide (e.sd = 1))) e.other e.q (decide (e.sd ≠ 1))
      exact ⟨b1.trans a1, fun j => (b2 j).trans (a2 j)⟩
    · split
      · exact ⟨by unfold stn; rw [less_M], fun j => by rw [mem_eq (less_M _ _ _)]⟩
      · exact ⟨rfl, fun _ => rfl⟩
theorem stn_behind : ∀ (l : List Ev) (D : Dk), stn (D.behind l) = stn D ∧ ∀ j, ((D.behind l).mem j).st = (D.mem j).st
  | [], D => ⟨rfl, fun _ => rfl⟩
  | e :: l, D => by
    obtain ⟨a1, a2⟩ := stn_ev D e
    obtain ⟨b1, b2⟩ := stn_behind l (D.ev e)
    exact ⟨b1.trans a1, fun j => (b2 j).trans (a2 j)⟩
theorem membL_len (D : Dk) : D.membL.length = stn D := by unfold Dk.membL stn; rw [srt_len, List.length_map]
/-! ### what was bought was sold -/
def rbs (D : Dk) : Nat → Int
  | 0 => 0
  | k + 1 => rbs D k + (D.mem ((k : Int) + 1)).b
def rss (D : Dk) : Nat → Int
  | 0 => 0
  | k + 1 => rss D k + (D.mem ((k : Int) + 1)).s
theorem rbs_trades {D : Dk} {id q : Int} {b : Bool} {a : RO} (h : D.ord id = some a) : ∀ k : Nat, rbs (D.trades id q b) k = rbs D k + (if 1 ≤ a.mb ∧ a.mb ≤ k then ((D.mem a.mb).trd q b).b - (D.mem a.mb).b else 0)
  | 0 => by
    rw [if_neg (by omega)]; rfl
  | k + 1 => by
    show rbs (D.trades id q b) k + ((D.trades id q b).mem ((k : Int) + 1)).b = rbs D k + (D.mem ((k : Int) + 1)).b + _
    rw [rbs_trades h k, trades_mem h]
    by_cases e : (k : Int) + 1 = a.mb
    · rw [if_pos e, if_neg (by omega), if_pos (by omega), e]; omega
    · rw [if_neg e]
      by_cases e2 : 1 ≤ a.mb ∧ a.mb ≤ k
      · rw [if_pos e2, if_pos (by omega)]; omega
      · rw [if_neg e2, if_neg (by omega)]; omega
theorem rss_trades {D : Dk} {id q : Int} {b : Bool} {a : RO} (h : D.ord id = some a) : ∀ k : Nat, rss (D.trades id q b) k = rss D k + (if 1 ≤ a.mb ∧ a.mb ≤ k then ((D.mem a.mb).trd q b).s - (D.mem a.mb).s else 0)
  | 0 => by
    rw [if_neg (by omega)]; rfl
  | k + 1 => by
    show rss (D.trades id q b) k + ((D.trades id q b).mem ((k : Int) + 1)).s = rss D k + (D.mem ((k : Int) + 1)).s + _
    rw [rss_trades h k, trades_mem h]
    by_cases e : (k : Int) + 1 = a.mb
    · rw [if_pos e, if_neg (by omega), if_pos (by omega), e]; omega
    · rw [if_neg e]
      by_cases e2 : 1 ≤ a.mb ∧ a.mb ≤ k
      · rw [if_pos e2, if_pos (by omega)]; omega
      · rw [if_neg e2, if_neg (by omega)]; omega
theorem rbs_M {D D' : Dk} (h : D'.M = D.M) : ∀ k, rbs D' k = rbs D k ∧ rss D' k = rss D k
  | 0 => ⟨rfl, rfl⟩
  | k + 1 => by
    obtain ⟨a, b⟩ := rbs_M h k
    exact ⟨by show rbs D' k + _ = rbs D k + _; rw [a, mem_eq h], by show rss D' k + _ = rss D k + _; rw [b, mem_eq h]⟩
def Bal (D : Dk) : Prop := (rbs D 8 - rss D 8) % 18446744073709551616 = 0
def Mb8 (D : Dk) : Prop := ∀ o ∈ D.O, 1 ≤ o.mb ∧ o.mb ≤ 8
theorem Mb8.ev {D : Dk} (h : Mb8 D) (e : Ev) (hk : e.kind ≠ 1) : Mb8 (D.ev e) := by
  unfold Dk.ev
  rw [if_neg hk]
  split
  · intro o ho
    obtain ⟨p, hp, -, e1, -⟩ := trades_from _ _ _ _ o ho
    obtain ⟨p', hp', -, e2, -⟩ := trades_from _ _ _ _ p hp
    rw [← e1, ← e2]; exact h p' hp'
  · split
    · intro o ho
      obtain ⟨p, hp, -, e1, -⟩ := less_from _ _ _ o ho
      rw [← e1]; exact h p hp
    · exact h
theorem Bal.ev {D : Dk} (h : Bal D) (hk : D.Ok) (hm : Mb8 D) {e : Ev} (g : Gn D e) : Bal (D.ev e) := by
  unfold Dk.ev
  rw [if_neg g.ack]
  split
  · rename_i h3
    obtain ⟨q0, hsd, a, ha, b, hb, ea, eb, hne, -⟩ := g.trd h3
    have oa : D.ord e.id = some a := by rw [← ea]; exact ord_mem hk ha
    have ob : (D.trades e.id e.q (decide (e.sd = 1))).ord e.other = some b := by
      rw [ord_trades_ne D (by rw [← ea, ← eb]; exact fun x => hne x.symm), ← eb]; exact ord_mem hk hb
    unfold Bal at h ⊢
    rw [rbs_trades ob, rss_trades ob, rbs_trades oa, rss_trades oa, if_pos (show 1 ≤ b.mb ∧ b.mb ≤ ((8 : Nat) : Int) from hm b hb), if_pos (show 1 ≤ b.mb ∧ b.mb ≤ ((8 : Nat) : Int) from hm b hb), if_pos (show 1 ≤ a.mb ∧ a.mb ≤ ((8 : Nat) : Int) from hm a ha), if_pos (show 1 ≤ a.mb ∧ a.mb ≤ ((8 : Nat) : Int) from hm a ha)]
    generalize (D.trades e.id e.q (decide (e.sd = 1))).mem b.mb = mb
    generalize D.mem a.mb = ma
    by_cases hs : e.sd = 1
    · have d1 : decide (e.sd = 1) = true := by simpa using hs
      have d2 : decide (e.sd ≠ 1) = false := by simp [hs]
      rw [d1, d2]
      unfold RM.trd
      simp only [if_true, Bool.false_eq_true, if_false]
      omega
    · have d1 : decide (e.sd = 1) = false := by simpa using hs
      have d2 : decide (e.sd ≠ 1) = true := by simp [hs]
      rw [d1, d2]
      unfold RM.trd
      simp only [if_true, Bool.false_eq_true, if_false]
      omega
  · split
    · unfold Bal at h ⊢
      obtain ⟨a, b⟩ := rbs_M (less_M D e.id e.q) 8
      rw [a, b]; exact h
    · exact h
theorem bal_gl : ∀ {l : List Ev} {D : Dk}, Bal D → Mb8 D → D.Ok → GL D l → Bal (D.behind l) ∧ Mb8 (D.behind l)
  | [], D, h, k, _, _ => ⟨h, k⟩
  | e :: l, D, h, k, o, g => bal_gl (D := D.ev e) (l := l) (h.ev o k g.1) (k.ev e g.1.ack) (o.ev e) g.2
theorem does_bal {D : Dk} {B : Bk} {c : Cm} (h : Bal D) (hm : Mb8 D) (hD : D.Ok) (hV : B.Vl) (hw : c.wf) (hP : D.O.Perm (bros B)) (hc : 1 ≤ c.mb ∧ c.mb ≤ 8) : Bal (D.behind (B.does c).2) ∧ Mb8 (D.behind (B.does c).2) := by
  rcases (does_desk hV hw hD hP).2 with g | ⟨g, e, l, e1, k⟩
  · exact bal_gl h hm hD g
  · rw [e1, show g ++ e :: l = (g ++ [e]) ++ l by simp, behind_app]
    obtain ⟨h1, h2⟩ := bal_gl h hm hD k.gg
    obtain ⟨a1, a2⟩ := k.ack hD
    refine bal_gl ?_ ?_ (hD.behind _) k.ll
    · unfold Bal at h1 ⊢
      obtain ⟨a, b⟩ := rbs_M a2 8
      rw [a, b]; exact h1
    · intro o ho
      rw [a1] at ho
      rcases List.mem_append.1 ho with ho | ho
      · exact h2 o ho
      · rw [List.mem_singleton.1 ho]
        show 1 ≤ e.mb ∧ e.mb ≤ 8
        rcases k.mb with q | ⟨t, ht, q⟩
        · rw [q]; exact hc
        · rw [q]; exact hm t ht
/-! ### how far each one goes -/
theorem obuys_cons (n : Int) (a : RO) (K : List RO) : obuys n (a :: K) = (if a.mb = n ∧ a.sd = 1 then a.r else 0) + obuys n K := by
  unfold obuys
  by_cases h : a.mb = n
  · by_cases h2 : a.sd = 1
    · rw [if_pos ⟨h, h2⟩, List.filter_cons_of_pos (by simpa using h), List.filter_cons_of_pos (by simpa using h2), List.map_cons, List.sum_cons]
    · rw [if_neg (fun x => h2 x.2), List.filter_cons_of_pos (by simpa using h), List.filter_cons_of_neg (by simpa using h2)]; omega
  · rw [if_neg (fun x => h x.1), List.filter_cons_of_neg (by simpa using h)]; omega
theorem osells_cons (n : Int) (a : RO) (K : List RO) : osells n (a :: K) = (if a.mb = n ∧ a.sd ≠ 1 then a.r else 0) + osells n K := by
  unfold osells
  by_cases h : a.mb = n
  · by_cases h2 : a.sd ≠ 1
    · rw [if_pos ⟨h, h2⟩, List.filter_cons_of_pos (by simpa using h), List.filter_cons_of_pos (by simpa using h2), List.map_cons, List.sum_cons]
    · rw [if_neg (fun x => h2 x.2), List.filter_cons_of_pos (by simpa using h), List.filter_cons_of_neg (by simpa using h2)]; omega
  · rw [if_neg (fun x => h x.1), List.filter_cons_of_neg (by simpa using h)]; omega
theorem ocnt_cons (n : Int) (a : RO) (K : List RO) : ocnt n (a :: K) = (if a.mb = n then 1 else 0) + ocnt n K := by
  unfold ocnt
  by_cases h : a.mb = n
  · rw [if_pos h, List.filter_cons_of_pos (by simpa using h), List.length_cons]; omega
  · rw [if_neg h, List.filter_cons_of_neg (by simpa using h)]; omega
theorem osum_perm {n : Int} {a b : List RO} (h : a.Perm b) : obuys n a = obuys n b ∧ osells n a = osells n b ∧ ocnt n a = ocnt n b := by
  unfold obuys osells ocnt
  exact ⟨perm_sum (((h.filter _).filter _).map RO.r), perm_sum (((h.filter _).filter fun o => decide (o.sd ≠ 1)).map RO.r), (h.filter _).length_eq⟩
theorem osum_rot {n q : Int} {a : RO} {K : List RO} (h : q ≤ a.r) : obuys n (rot a q ++ K) = (if a.mb = n ∧ a.sd = 1 then a.r - q else 0) + obuys n K ∧ osells n (rot a q ++ K) = (if a.mb = n ∧ a.sd ≠ 1 then a.r - q else 0) + osells n K ∧ ocnt n (rot a q ++ K) ≤ (if a.mb = n then 1 else 0) + ocnt n K := by
  unfold rot
  by_cases hq : a.r ≤ q
  · have e : a.r - q = 0 := by omega
    rw [if_pos hq, e]
    refine ⟨?_, ?_, ?_⟩
    · show obuys n K = _; split <;> omega
    · show osells n K = _; split <;> omega
    · show ocnt n K ≤ _; omega
  · rw [if_neg hq]
    exact ⟨obuys_cons _ _ _, osells_cons _ _ _, Nat.le_of_eq (ocnt_cons _ _ _)⟩
theorem osum_less {D : Dk} {a : RO} {q : Int} (hk : D.Ok) (ha : a ∈ D.O) (h0 : 0 ≤ q) (hq : q ≤ a.r) (hr : a.r < 18446744073709551616) (n : Int) :
    obuys n (D.less a.id q).O = obuys n D.O - (if a.mb = n ∧ a.sd = 1 then q else 0) ∧ osells n (D.less a.id q).O = osells n D.O - (if a.mb = n ∧ a.sd ≠ 1 then q else 0) ∧ ocnt n (D.less a.id q).O ≤ ocnt n D.O := by
  obtain ⟨x, y, exy⟩ := List.append_of_mem ha
  have hO : D.O.Perm (a :: (x ++ y)) := by rw [exy]; exact List.perm_middle
  obtain ⟨p1, p2, p3⟩ := osum_perm (n := n) (less_perm hk hO h0 hr).1
  obtain ⟨q1, q2, q3⟩ := osum_perm (n := n) hO
  obtain ⟨r1, r2, r3⟩ := osum_rot (n := n) (K := x ++ y) hq
  rw [p1, p2, p3, q1, q2, q3, r1, r2, obuys_cons, osells_cons, ocnt_cons]
  refine ⟨?_, ?_, r3⟩
  · split <;> omega
  · split <;> omega
/-- nobody is beyond its limits; N bounds what was traded or can be -/
structure Lim (D : Dk) (N : Int) : Prop where
  cnt : ∀ n, (D.mem n).st = true → (ocnt n D.O : Int) ≤ (D.mem n).l.cnt
  op : ∀ n, (D.mem n).st = true → obuys n D.O + osells n D.O ≤ (D.mem n).l.op
  pb : ∀ n, (D.mem n).st = true → (D.mem n).b + obuys n D.O - (D.mem n).s ≤ (D.mem n).l.pos
  ps : ∀ n, (D.mem n).st = true → (D.mem n).s + osells n D.O - (D.mem n).b ≤ (D.mem n).l.pos
  b0 : ∀ n, 0 ≤ (D.mem n).b ∧ 0 ≤ (D.mem n).s ∧ 0 ≤ obuys n D.O ∧ 0 ≤ osells n D.O
  hi : ∀ n, (D.mem n).b + obuys n D.O ≤ N ∧ (D.mem n).s + osells n D.O ≤ N
theorem osum_pos {n : Int} : ∀ {O : List RO}, (∀ o ∈ O, 0 ≤ o.r) → 0 ≤ obuys n O ∧ 0 ≤ osells n O
  | [], _ => by unfold obuys osells; simp
  | a :: O, h => by
    obtain ⟨h1, h2⟩ := osum_pos (n := n) fun o ho => h o (List.mem_cons_of_mem a ho)
    have := h a List.mem_cons_self
    rw [obuys_cons, osells_cons]
    refine ⟨?_, ?_⟩
    · split <;> omega
    · split <;> omega
theorem less_pos {D : Dk} (h : D.R) (id q : Int) (n : Int) : 0 ≤ obuys n (D.less id q).O ∧ 0 ≤ osells n (D.less id q).O := osum_pos fun o ho => ((h.less id q).o o ho).1
theorem Lim.less {D : Dk} {N : Int} (h : Lim D N) (hk : D.Ok) (hR : D.R) {a : RO} {q : Int} (ha : a ∈ D.O) (h0 : 0 ≤ q) (hq : q ≤ a.r) (hr : a.r < 18446744073709551616) : Lim (D.less a.id q) N := by
  have hm := fun n => mem_eq (less_M D a.id q) n
  have hs := osum_less hk ha h0 hq hr
  have hp := less_pos hR a.id q
  have key : ∀ n, obuys n (D.less a.id q).O ≤ obuys n D.O ∧ osells n (D.less a.id q).O ≤ osells n D.O ∧ ocnt n (D.less a.id q).O ≤ ocnt n D.O := fun n => by
    obtain ⟨s1, s2, s3⟩ := hs n
    rw [s1, s2]
    refine ⟨?_, ?_, s3⟩
    · split <;> omega
    · split <;> omega
  refine ⟨fun n hn => ?_, fun n hn => ?_, fun n hn => ?_, fun n hn => ?_, fun n => ?_, fun n => ?_⟩
  · rw [hm] at hn ⊢; have := h.cnt n hn; have := key n; omega
  · rw [hm] at hn ⊢; have := h.op n hn; have := key n; omega
  · rw [hm] at hn ⊢; have := h.pb n hn; have := key n; omega
  · rw [hm] at hn ⊢; have := h.ps n hn; have := key n; omega
  · rw [hm]; have := h.b0 n; have := hp n; omega
  · rw [hm]; have := h.hi n; have := key n; omega
theorem Lim.trades {D : Dk} {N : Int} (h : Lim D N) (hN : N < 18446744073709551616) (hk : D.Ok) (hR : D.R) {a : RO} {q : Int} (ha : a ∈ D.O) (h0 : 0 ≤ q) (hq : q ≤ a.r) (hr : a.r < 18446744073709551616) : Lim (D.trades a.id q (decide (a.sd = 1))) N := by
  have oa := ord_mem hk ha
  have hO : (D.trades a.id q (decide (a.sd = 1))).O = (D.less a.id q).O := by
    rw [trades_some oa]
    unfold Dk.less Dk.ord
    rw [Dk.put_O]
    split
    · rw [Dk.put_O]
    · split
      · unfold Dk.del; simp only [Dk.put_O]
      · simp only [Dk.put_O]
  have hs := osum_less hk ha h0 hq hr
  have hp := less_pos hR a.id q
  have hm := trades_mem (q := q) (b := decide (a.sd = 1)) oa
  have hb : ∀ n, ((D.trades a.id q (decide (a.sd = 1))).mem n).st = (D.mem n).st ∧ ((D.trades a.id q (decide (a.sd = 1))).mem n).l = (D.mem n).l ∧ ((D.trades a.id q (decide (a.sd = 1))).mem n).b = (D.mem n).b + (if a.mb = n ∧ a.sd = 1 then q else 0) ∧ ((D.trades a.id q (decide (a.sd = 1))).mem n).s = (D.mem n).s + (if a.mb = n ∧ a.sd ≠ 1 then q else 0) := fun n => by
    rw [hm]
    by_cases e : n = a.mb
    · rw [if_pos e, e]
      have hh := h.hi a.mb
      have hh0 := h.b0 a.mb
      have hu := osum_less hk ha h0 hq hr a.mb
      have hp' := hp a.mb
      refine ⟨(trd_st _ _ _).1, (trd_st _ _ _).2.1, ?_, ?_⟩
      · unfold RM.trd
        by_cases s1 : a.sd = 1
        · simp only [s1, decide_true, if_true, and_true]
          simp only [s1, if_true, and_true] at hu
          omega
        · simp only [s1, decide_false, Bool.false_eq_true, if_false, and_false]; omega
      · unfold RM.trd
        by_cases s1 : a.sd = 1
        · simp only [s1, decide_true, if_true, ne_eq, not_true, and_false, if_false]; omega
        · simp only [s1, decide_false, Bool.false_eq_true, if_false, ne_eq, not_false_eq_true, and_true, if_true]
          simp only [s1, ne_eq, not_false_eq_true, and_true, if_true] at hu
          omega
    · rw [if_neg e, if_neg (fun x => e x.1.symm), if_neg (fun x => e x.1.symm)]
      exact ⟨rfl, rfl, by omega, by omega⟩
  rw [← hO] at hs hp
  generalize D.trades a.id q (decide (a.sd = 1)) = D' at *
  refine ⟨fun n hn => ?_, fun n hn => ?_, fun n hn => ?_, fun n hn => ?_, fun n => ?_, fun n => ?_⟩
  · obtain ⟨b1, b2, b3, b4⟩ := hb n; obtain ⟨s1, s2, s3⟩ := hs n
    rw [b1] at hn; rw [b2]; have := h.cnt n hn; omega
  · obtain ⟨b1, b2, b3, b4⟩ := hb n; obtain ⟨s1, s2, s3⟩ := hs n
    rw [b1] at hn; rw [b2, s1, s2]; have := h.op n hn
    split <;> split <;> omega
  · obtain ⟨b1, b2, b3, b4⟩ := hb n; obtain ⟨s1, s2, s3⟩ := hs n
    rw [b1] at hn; rw [b2, b3, b4, s1]; have := h.pb n hn
    split <;> split <;> omega
  · obtain ⟨b1, b2, b3, b4⟩ := hb n; obtain ⟨s1, s2, s3⟩ := hs n
    rw [b1] at hn; rw [b2, b3, b4, s2]; have := h.ps n hn
    split <;> split <;> omega
  · obtain ⟨b1, b2, b3, b4⟩ := hb n; have hp' := hp n; have := h.b0 n
    rw [b3, b4]
    refine ⟨?_, ?_, hp'.1, hp'.2⟩
    · split <;> omega
    · split <;> omega
  · obtain ⟨b1, b2, b3, b4⟩ := hb n; obtain ⟨s1, s2, s3⟩ := hs n
    have := h.hi n
    rw [b3, b4, s1, s2]
    refine ⟨?_, ?_⟩
    · split <;> omega
    · split <;> omega
theorem Lim.ev {D : Dk} {N : Int} (h : Lim D N) (hN : N < 18446744073709551616) (hk : D.Ok) (hR : D.R) {e : Ev} (g : Gn D e) : Lim (D.ev e) N := by
  unfold Dk.ev
  rw [if_neg g.ack]
  split
  · rename_i h3
    obtain ⟨q0, hsd, a, ha, b, hb, ea, eb, hne, qa, qb, sa, sb, ra, rb⟩ := g.trd h3
    have h1 := h.trades hN hk hR ha (by omega) qa ra
    have k1 := hk.trades a.id e.q (decide (a.sd = 1))
    have R1 := hR.trades a.id e.q (decide (a.sd = 1))
    have hb1 : b ∈ (D.trades a.id e.q (decide (a.sd = 1))).O := by
      have : (D.trades a.id e.q (decide (a.sd = 1))).ord b.id = some b := by
        rw [ord_trades_ne D (fun x => hne x.symm)]; exact ord_mem hk hb
      exact (ord_in this).1
    have h2 := h1.trades hN k1 R1 hb1 (by omega) qb rb
    have d1 : decide (e.sd = 1) = decide (a.sd = 1) := by rw [sa]
    have d2 : decide (e.sd ≠ 1) = decide (b.sd = 1) := by
      rw [sb]; exact decide_eq_decide.2 ⟨fun x => by omega, fun x => by omega⟩
    rw [d1, d2, ← ea, ← eb]
    exact h2
  · split
    · rename_i h4
      obtain ⟨q0, a, ha, ea, qa, ra⟩ := g.cnc h4
      rw [← ea]; exact h.less hk hR ha q0 qa ra
    · exact h
theorem Dk.R.ev' {D : Dk} (h : D.R) {e : Ev} (hk : e.kind ≠ 1) : (D.ev e).R := by
  unfold Dk.ev
  rw [if_neg hk]
  split
  · exact (h.trades _ _ _).trades _ _ _
  · split
    · exact h.less _ _
    · exact h
theorem lim_gl {N : Int} (hN : N < 18446744073709551616) : ∀ {l : List Ev} {D : Dk}, Lim D N → D.R → D.Ok → GL D l → Lim (D.behind l) N ∧ (D.behind l).R
  | [], D, h, k, _, _ => ⟨h, k⟩
  | e :: l, D, h, k, o, g => lim_gl hN (D := D.ev e) (l := l) (h.ev hN o k g.1) (k.ev' g.1.ack) (o.ev e) g.2
theorem R_took {D : Dk} {c : Cm} {g l : List Ev} {e : Ev} (hR : D.R) (hk : D.Ok) (k : Took D c g e l) : (D.behind g).R ∧ (D.behind (g ++ [e])).R ∧ (D.behind (g ++ e :: l)).R := by
  have gl : ∀ {l : List Ev} {D : Dk}, D.R → GL D l → (D.behind l).R := by
    intro l
    induction l with
    | nil => intro D h _; exact h
    | cons e l ih => intro D h g; exact ih (h.ev' g.1.ack) g.2
  have h1 := gl hR k.gg
  have h2 : (D.behind (g ++ [e])).R := by
    obtain ⟨a1, a2⟩ := k.ack hk
    refine ⟨by rw [a2]; exact h1.m, fun o ho => ?_⟩
    rw [a1] at ho
    rcases List.mem_append.1 ho with ho | ho
    · exact h1.o o ho
    · rw [List.mem_singleton.1 ho]
      have := k.q
      show 0 ≤ e.q ∧ e.q < 18446744073709551616
      omega
  refine ⟨h1, h2, ?_⟩
  rw [show g ++ e :: l = (g ++ [e]) ++ l by simp, behind_app]
  exact gl h2 k.ll
theorem does_R {D : Dk} {B : Bk} {c : Cm} (hR : D.R) (hD : D.Ok) (hV : B.Vl) (hw : c.wf) (hP : D.O.Perm (bros B)) : (D.behind (B.does c).2).R := by
  rcases (does_desk hV hw hD hP).2 with g | ⟨g, e, l, e1, k⟩
  · have gl : ∀ {l : List Ev} {D : Dk}, D.R → GL D l → (D.behind l).R := by
      intro l
      induction l with
      | nil => intro D h _; exact h
      | cons e l ih => intro D h g; exact ih (h.ev' g.1.ack) g.2
    exact gl hR g
  · rw [e1]; exact (R_took hR hD k).2.2
/-- what Ahead lets go -/
theorem ahead_zero {D : Dk} {c : Cm} (h : D.ahead c = 0) (hk : c.k = 1 ∨ c.k = 3) : (D.mem c.mb).st = true ∧ (D.mem c.mb).kl = false ∧
    (c.k = 1 → ¬ (D.mem c.mb).l.cnt ≤ (D.stand c.mb).c ∧ ¬ (D.mem c.mb).l.op < (D.stand c.mb).bu + (D.stand c.mb).se + c.q ∧ ¬ (D.mem c.mb).l.pos < has (D.stand c.mb) c.sd + waits (D.stand c.mb) c.sd + c.q - owes (D.stand c.mb) c.sd) ∧
    (∀ t, c.k = 3 → D.ord c.tg = some t → t.mb = c.mb ∧ ¬ (D.mem c.mb).l.op < (D.stand c.mb).bu + (D.stand c.mb).se + c.q - t.r ∧ ¬ (D.mem c.mb).l.pos < has (D.stand c.mb) t.sd + waits (D.stand c.mb) t.sd + c.q - t.r - owes (D.stand c.mb) t.sd) := by
  unfold Dk.ahead aheadP at h
  generalize D.mem c.mb = m at *
  generalize D.stand c.mb = S at *
  by_cases n1 : (c.k = 2 ∨ c.k = 3) ∧ (D.ord c.tg).isSome = true ∧ ((D.ord c.tg).getD ro0).mb ≠ c.mb
  · rw [if_pos n1] at h; cases h
  rw [if_neg n1, if_neg (by omega)] at h
  by_cases n2 : m.st = false
  · rw [if_pos n2] at h; cases h
  rw [if_neg n2] at h
  by_cases n3 : m.kl = true
  · rw [if_pos n3] at h; cases h
  rw [if_neg n3] at h
  refine ⟨by simpa using n2, by simpa using n3, fun k1 => ?_, fun t k3 ht => ?_⟩
  · by_cases n4 : m.l.ord < c.q
    · rw [if_pos n4] at h; cases h
    rw [if_neg n4, if_neg (by omega)] at h
    by_cases n5 : m.l.cnt ≤ S.c
    · rw [if_pos ⟨by omega, n5⟩] at h; cases h
    rw [if_neg (fun x => n5 x.2)] at h
    have e1 : c.was ((D.ord c.tg).getD ro0) = 0 := if_neg (by omega)
    have e2 : c.sid ((D.ord c.tg).getD ro0) = c.sd := if_neg (by omega)
    rw [e1, e2] at h
    by_cases n6 : m.l.op < S.bu + S.se + c.q - 0
    · rw [if_pos n6] at h; cases h
    rw [if_neg n6] at h
    by_cases n7 : m.l.pos < has S c.sd + waits S c.sd + c.q - 0 - owes S c.sd
    · rw [if_pos n7] at h; cases h
    exact ⟨n5, by omega, by omega⟩
  · by_cases n4 : m.l.ord < c.q
    · rw [if_pos n4] at h; cases h
    rw [ht] at n1 h
    rw [if_neg n4, if_neg (fun x => by simp at x), if_neg (fun x => x.1 k3)] at h
    have e1 : c.was ((some t).getD ro0) = t.r := if_pos k3
    have e2 : c.sid ((some t).getD ro0) = t.sd := if_pos k3
    rw [e1, e2] at h
    by_cases n6 : m.l.op < S.bu + S.se + c.q - t.r
    · rw [if_pos n6] at h; cases h
    rw [if_neg n6] at h
    by_cases n7 : m.l.pos < has S t.sd + waits S t.sd + c.q - t.r - owes S t.sd
    · rw [if_pos n7] at h; cases h
    refine ⟨?_, n6, n7⟩
    rcases Decidable.em (t.mb = c.mb) with x | x
    · exact x
    · exact absurd ⟨.inr k3, rfl, x⟩ n1
end Go.Proofs.Ytfajjkolhajldaa

/- RiskLimits, plain: who is let go by Ahead stays within its limits. -/
namespace Go.Proofs.Ytfajjkolhajldaa
open Go.V
set_option linter.unusedVariables false
set_option linter.unusedSimpArgs false

theorem Lim.mono {D : Dk} {N N' : Int} (h : Lim D N) (e : N ≤ N') : Lim D N' := ⟨h.cnt, h.op, h.pb, h.ps, h.b0, fun n => by have := h.hi n; omega⟩
theorem osum_snoc (n : Int) (K : List RO) (a : RO) : obuys n (K ++ [a]) = obuys n K + (if a.mb = n ∧ a.sd = 1 then a.r else 0) ∧ osells n (K ++ [a]) = osells n K + (if a.mb = n ∧ a.sd ≠ 1 then a.r else 0) ∧ ocnt n (K ++ [a]) = ocnt n K + (if a.mb = n then 1 else 0) := by
  obtain ⟨p1, p2, p3⟩ := osum_perm (n := n) (List.perm_append_comm (l₁ := K) (l₂ := [a]))
  rw [p1, p2, p3]
  show obuys n (a :: K) = _ ∧ osells n (a :: K) = _ ∧ ocnt n (a :: K) = _
  rw [obuys_cons, osells_cons, ocnt_cons]
  exact ⟨by omega, by omega, by omega⟩
/-- one more order that may go -/
theorem Lim.add {D D2 : Dk} {N q : Int} {a : RO} (h : Lim D N) (h0 : 0 ≤ a.r) (hq : a.r ≤ 4294967295) (hO : D2.O = D.O ++ [a]) (hM : D2.M = D.M)
    (f1 : (ocnt a.mb D.O : Int) + 1 ≤ (D.mem a.mb).l.cnt) (f2 : obuys a.mb D.O + osells a.mb D.O + a.r ≤ (D.mem a.mb).l.op)
    (f3 : a.sd = 1 → (D.mem a.mb).b + obuys a.mb D.O + a.r - (D.mem a.mb).s ≤ (D.mem a.mb).l.pos) (f4 : a.sd ≠ 1 → (D.mem a.mb).s + osells a.mb D.O + a.r - (D.mem a.mb).b ≤ (D.mem a.mb).l.pos) : Lim D2 (N + 4294967295) := by
  have hm := fun n => mem_eq hM n
  have hs := fun n => osum_snoc n D.O a
  rw [← hO] at hs
  refine ⟨fun n hn => ?_, fun n hn => ?_, fun n hn => ?_, fun n hn => ?_, fun n => ?_, fun n => ?_⟩
  · obtain ⟨s1, s2, s3⟩ := hs n
    rw [hm] at hn ⊢
    have := h.cnt n hn
    rw [s3]
    by_cases e : a.mb = n
    · subst e; rw [if_pos rfl]; omega
    · rw [if_neg e]; omega
  · obtain ⟨s1, s2, s3⟩ := hs n
    rw [hm] at hn ⊢
    have := h.op n hn
    rw [s1, s2]
    by_cases e : a.mb = n
    · subst e
      by_cases e2 : a.sd = 1
      · rw [if_pos ⟨rfl, e2⟩, if_neg (fun x => x.2 e2)]; omega
      · rw [if_neg (fun x => e2 x.2), if_pos ⟨rfl, e2⟩]; omega
    · rw [if_neg (fun x => e x.1), if_neg (fun x => e x.1)]; omega
  · obtain ⟨s1, s2, s3⟩ := hs n
    rw [hm] at hn ⊢
    have := h.pb n hn
    rw [s1]
    by_cases e : a.mb = n
    · subst e
      by_cases e2 : a.sd = 1
      · rw [if_pos ⟨rfl, e2⟩]; have := f3 e2; omega
      · rw [if_neg (fun x => e2 x.2)]; omega
    · rw [if_neg (fun x => e x.1)]; omega
  · obtain ⟨s1, s2, s3⟩ := hs n
    rw [hm] at hn ⊢
    have := h.ps n hn
    rw [s2]
    by_cases e : a.mb = n
    · subst e
      by_cases e2 : a.sd ≠ 1
      · rw [if_pos ⟨rfl, e2⟩]; have := f4 e2; omega
      · rw [if_neg (fun x => e2 x.2)]; omega
    · rw [if_neg (fun x => e x.1)]; omega
  · obtain ⟨s1, s2, s3⟩ := hs n
    rw [hm, s1, s2]
    have := h.b0 n
    refine ⟨this.1, this.2.1, ?_, ?_⟩
    · split <;> omega
    · split <;> omega
  · obtain ⟨s1, s2, s3⟩ := hs n
    rw [hm, s1, s2]
    have := h.hi n
    refine ⟨?_, ?_⟩
    · split <;> omega
    · split <;> omega
theorem does_lim {D : Dk} {B : Bk} {c : Cm} {N : Int} (h : Lim D N) (hN : N + 4294967295 < 18446744073709551616) (hR : D.R) (hD : D.Ok) (hV : B.Vl) (hw : c.wf) (hP : D.O.Perm (bros B)) (ha : D.ahead c = 0) :
    Lim (D.behind (B.does c).2) (N + 4294967295) := by
  rcases (does_desk hV hw hD hP).2 with g | ⟨g, e, l, e1, k⟩
  · exact (lim_gl (by omega) h hR hD g).1.mono (by omega)
  · obtain ⟨r1, r2, -⟩ := R_took hR hD k
    have h1 := (lim_gl (by omega) h hR hD k.gg).1
    have h2 : Lim (D.behind (g ++ [e])) (N + 4294967295) := by
      obtain ⟨a1, a2⟩ := k.ack hD
      obtain ⟨kq, k1, k2⟩ := k.q
      have hb0 := h.b0 c.mb
      have hhi := h.hi c.mb
      have e5 : (D.stand c.mb).c = (ocnt c.mb D.O : Int) := rfl
      have e6 : (D.stand c.mb).bu = obuys c.mb D.O % 18446744073709551616 := rfl
      have e7 : (D.stand c.mb).se = osells c.mb D.O % 18446744073709551616 := rfl
      have e8 : (D.stand c.mb).b = (D.mem c.mb).b := rfl
      have e9 : (D.stand c.mb).s = (D.mem c.mb).s := rfl
      have e6' : (D.stand c.mb).bu = obuys c.mb D.O := by rw [e6]; omega
      have e7' : (D.stand c.mb).se = osells c.mb D.O := by rw [e7]; omega
      rcases k.how with ⟨hk, hg, hm, hs⟩ | ⟨hk, t, ht, hm, hs, hp, hM⟩
      · obtain ⟨z1, z2, z3, -⟩ := ahead_zero ha (.inl hk)
        obtain ⟨z4, z5, z6⟩ := z3 hk
        subst hg
        rw [e5] at z4
        rw [e6', e7'] at z5
        refine Lim.add (q := 0) h1 (by show 0 ≤ e.q; omega) (by show e.q ≤ _; omega) a1 a2 ?_ ?_ ?_ ?_
        · show (ocnt e.mb D.O : Int) + 1 ≤ (D.mem e.mb).l.cnt; rw [hm]; omega
        · show obuys e.mb D.O + osells e.mb D.O + e.q ≤ (D.mem e.mb).l.op; rw [hm]; omega
        · intro hsd
          show (D.mem e.mb).b + obuys e.mb D.O + e.q - (D.mem e.mb).s ≤ (D.mem e.mb).l.pos
          have hsd : e.sd = 1 := hsd
          unfold has waits owes at z6
          rw [if_pos (by omega), if_pos (by omega), if_pos (by omega), e6', e8, e9] at z6
          rw [hm]; omega
        · intro hsd
          show (D.mem e.mb).s + osells e.mb D.O + e.q - (D.mem e.mb).b ≤ (D.mem e.mb).l.pos
          have hsd : e.sd ≠ 1 := hsd
          unfold has waits owes at z6
          rw [if_neg (by omega), if_neg (by omega), if_neg (by omega), e7', e8, e9] at z6
          rw [hm]; omega
      · obtain ⟨z1, z2, -, z3⟩ := ahead_zero ha (.inr hk)
        obtain ⟨z4, z5, z6⟩ := z3 t hk ht
        have hcn := h.cnt c.mb z1
        obtain ⟨p1, p2, p3⟩ := osum_perm (n := c.mb) hp
        rw [obuys_cons] at p1
        rw [osells_cons] at p2
        rw [ocnt_cons, if_pos z4] at p3
        rw [e6', e7', p1, p2] at z5
        have hmm := mem_eq hM c.mb
        have hmb : e.mb = c.mb := hm.trans z4
        refine Lim.add (q := 0) h1 (by show 0 ≤ e.q; omega) (by show e.q ≤ _; omega) a1 a2 ?_ ?_ ?_ ?_
        · show (ocnt e.mb (D.behind g).O : Int) + 1 ≤ ((D.behind g).mem e.mb).l.cnt; rw [hmb, hmm]; omega
        · show obuys e.mb (D.behind g).O + osells e.mb (D.behind g).O + e.q ≤ ((D.behind g).mem e.mb).l.op
          rw [hmb, hmm]
          by_cases e2 : t.sd = 1
          · rw [if_pos ⟨z4, e2⟩, if_neg (fun x => x.2 e2)] at z5; omega
          · rw [if_neg (fun x => e2 x.2), if_pos ⟨z4, e2⟩] at z5; omega
        · intro hsd
          show ((D.behind g).mem e.mb).b + obuys e.mb (D.behind g).O + e.q - ((D.behind g).mem e.mb).s ≤ ((D.behind g).mem e.mb).l.pos
          have hsd : e.sd = 1 := hsd
          have e2 : t.sd = 1 := by omega
          unfold has waits owes at z6
          rw [if_pos e2, if_pos e2, if_pos e2, e6', e8, e9, p1, if_pos ⟨z4, e2⟩] at z6
          rw [hmb, hmm]; omega
        · intro hsd
          show ((D.behind g).mem e.mb).s + osells e.mb (D.behind g).O + e.q - ((D.behind g).mem e.mb).b ≤ ((D.behind g).mem e.mb).l.pos
          have hsd : e.sd ≠ 1 := hsd
          have e2 : t.sd ≠ 1 := by omega
          unfold has waits owes at z6
          rw [if_neg e2, if_neg e2, if_neg e2, e7', e8, e9, p2, if_pos ⟨z4, e2⟩] at z6
          rw [hmb, hmm]; omega
    rw [e1, show g ++ e :: l = (g ++ [e]) ++ l by simp, behind_app]
    exact (lim_gl hN h2 r2 (hD.behind _) k.ll).1
/-! ### members that are set, or killed -/
theorem Lim.new {D : Dk} (hO : D.O = []) (hR : D.R) (hz : ∀ n, (D.mem n).b = 0 ∧ (D.mem n).s = 0 ∧ ((D.mem n).st = true → 0 ≤ (D.mem n).l.cnt)) : Lim D 0 := by
  have e1 : ∀ n, obuys n D.O = 0 := fun n => by rw [hO]; rfl
  have e2 : ∀ n, osells n D.O = 0 := fun n => by rw [hO]; rfl
  have e3 : ∀ n, ocnt n D.O = 0 := fun n => by rw [hO]; rfl
  refine ⟨fun n hn => ?_, fun n hn => ?_, fun n hn => ?_, fun n hn => ?_, fun n => ?_, fun n => ?_⟩
  · rw [e3]; have := (hz n).2.2 hn; omega
  · rw [e1, e2]; have := (hR.mem n).op.1; omega
  · rw [e1]; have := (hR.mem n).pos.1; have := hz n; omega
  · rw [e2]; have := (hR.mem n).pos.1; have := hz n; omega
  · rw [e1, e2]; have := hz n; omega
  · rw [e1, e2]; have := hz n; omega
theorem doSet_mem (D : Dk) (n : Int) (l : RL) (j : Int) : (D.doSet n l).mem j = if j = n ∧ ¬ (n = 0 ∨ l.cnt < 0) then { D.mem n with st := true, l := l } else D.mem j := by
  unfold Dk.doSet
  by_cases h : n = 0 ∨ l.cnt < 0
  · rw [if_pos h, if_neg (fun x => x.2 h)]
  · rw [if_neg h]
    unfold Dk.set
    rw [D.mem_put n (fun m => { m with st := true, l := l }) (fun _ => rfl)]
    by_cases e : j = n
    · rw [if_pos e, if_pos ⟨e, h⟩]
    · rw [if_neg e, if_neg (fun x => e x.1)]
theorem doStop_mem (D : Dk) (n : Int) (k : Bool) (j : Int) : ((D.doStop n k).mem j).st = (D.mem j).st ∧ ((D.doStop n k).mem j).l = (D.mem j).l ∧ ((D.doStop n k).mem j).b = (D.mem j).b ∧ ((D.doStop n k).mem j).s = (D.mem j).s := by
  unfold Dk.doStop
  split
  · unfold Dk.stop
    rw [D.mem_put n (fun m => { m with kl := k }) (fun _ => rfl)]
    split
    · rename_i e; subst e; exact ⟨rfl, rfl, rfl, rfl⟩
    · exact ⟨rfl, rfl, rfl, rfl⟩
  · exact ⟨rfl, rfl, rfl, rfl⟩
theorem Lim.stop {D : Dk} {N : Int} (h : Lim D N) (n : Int) (k : Bool) : Lim (D.doStop n k) N := by
  have hm := doStop_mem D n k
  have hO := D.doStop_O n k
  refine ⟨fun j hj => ?_, fun j hj => ?_, fun j hj => ?_, fun j hj => ?_, fun j => ?_, fun j => ?_⟩
  · obtain ⟨a1, a2, a3, a4⟩ := hm j; rw [a1] at hj; rw [a2, hO]; exact h.cnt j hj
  · obtain ⟨a1, a2, a3, a4⟩ := hm j; rw [a1] at hj; rw [a2, hO]; exact h.op j hj
  · obtain ⟨a1, a2, a3, a4⟩ := hm j; rw [a1] at hj; rw [a2, a3, a4, hO]; exact h.pb j hj
  · obtain ⟨a1, a2, a3, a4⟩ := hm j; rw [a1] at hj; rw [a2, a3, a4, hO]; exact h.ps j hj
  · obtain ⟨a1, a2, a3, a4⟩ := hm j; rw [a3, a4, hO]; exact h.b0 j
  · obtain ⟨a1, a2, a3, a4⟩ := hm j; rw [a3, a4, hO]; exact h.hi j
theorem mem_in {D : Dk} {n : Int} (h : (D.mem n).st = true) : ∃ m ∈ D.M, m.n = n := by
  unfold Dk.mem at h
  cases hk : kfind RM.n n D.M with
  | none => rw [hk] at h; cases h
  | some m => exact ⟨m, kfind_mem RM.n hk, kfind_key RM.n hk⟩
theorem InS.stop {S : List Int} {D : Dk} (h : InS S D) (n : Int) (k : Bool) : InS S (D.doStop n k) := by
  unfold Dk.doStop
  split
  · rename_i hs
    obtain ⟨m, hm, e⟩ := mem_in hs
    exact h.put n _ (fun _ => rfl) (by rw [← e]; exact h.1 m hm)
  · exact h
theorem InS.set {S : List Int} {D : Dk} (h : InS S D) (n : Int) (l : RL) : InS (n :: S) (D.doSet n l) := by
  have h' := h.mono (T := n :: S) fun x hx => List.mem_cons_of_mem _ hx
  unfold Dk.doSet
  split
  · exact h'
  · exact h'.put n _ (fun _ => rfl) List.mem_cons_self
theorem membL_st {D : Dk} (hk : D.Ok) {x : Int} (h : x ∈ D.membL) : (D.mem x).st = true := by
  have h1 : x ∈ (D.M.filter fun m => m.st).map RM.n := (srt_perm _).mem_iff.1 h
  obtain ⟨m, hm, rfl⟩ := List.mem_map.1 h1
  obtain ⟨h2, h3⟩ := List.mem_filter.1 hm
  unfold Dk.mem
  rw [kfind_of_mem RM.n hk.m h2]
  exact h3
/-- what the law asks of a standing -/
structure Within (S : Sg) : Prop where
  c : ¬ S.c > S.l.cnt
  o : ¬ IntKind.u64.wrap (S.bu + S.se) > S.l.op
  b : S.b > S.s → ¬ IntKind.u64.wrap (S.b - S.s) > S.l.pos
  s : S.s > S.b → ¬ IntKind.u64.wrap (S.s - S.b) > S.l.pos
theorem Lim.within {D : Dk} {N : Int} (h : Lim D N) (hN : 2 * N < 18446744073709551616) (n : Int) (hn : (D.mem n).st = true) : Within (D.stand n) := by
  have h1 := h.cnt n hn
  have h2 := h.op n hn
  have h3 := h.pb n hn
  have h4 := h.ps n hn
  have h5 := h.b0 n
  have h6 := h.hi n
  have e5 : (D.stand n).c = (ocnt n D.O : Int) := rfl
  have e6 : (D.stand n).bu = obuys n D.O % 18446744073709551616 := rfl
  have e7 : (D.stand n).se = osells n D.O % 18446744073709551616 := rfl
  have e8 : (D.stand n).b = (D.mem n).b := rfl
  have e9 : (D.stand n).s = (D.mem n).s := rfl
  have e10 : (D.stand n).l = (D.mem n).l := rfl
  refine ⟨?_, ?_, fun hh => ?_, fun hh => ?_⟩
  · rw [e5, e10]; omega
  · rw [e6, e7, e10, rk_wrap]; omega
  · rw [e8, e9] at hh; rw [e8, e9, e10, rk_wrap]; omega
  · rw [e8, e9] at hh; rw [e8, e9, e10, rk_wrap]; omega
end Go.Proofs.Ytfajjkolhajldaa

/- The law RulesNumbers: its walk. -/
namespace Go.Proofs.Ytfajjkolhajldaa
open Go.V
set_option linter.unusedVariables false
set_option linter.unusedSimpArgs false

def crows (l : List Cm) : List Value := l.flatMap Cm.cells
theorem crows_length (l : List Cm) : (crows l).length = l.length * 9 := flatMap_length _ 9 (fun _ => rfl) l
theorem crows_get (l : List Cm) (i j : Nat) (hi : i < l.length) (hj : j < 9) : (crows l)[i * 9 + j]? = (l[i].cells)[j]? := flatMap_get _ 9 (fun _ => rfl) l i j hi hj
theorem Rd.cm {w : World} {no : List Nat} {A : Option Addr} {l : List Cm} (h : Rd w no A (crows l)) (hn : 0 < l.length) :
    ∃ b o, A = some ⟨b, o, none⟩ ∧ ∀ (i : Nat) (hi : i < l.length) (own : List Nat) (hs : Hp), (∀ x ∈ own, x ∈ no) → At w own hs ⟨b, o + i * 9, none⟩ l[i].cells := by
  obtain ⟨b, o, e, hb, hc⟩ := h.base (by rw [crows_length]; omega)
  refine ⟨b, o, e, fun i hi own hs hsub => At.old (fun j v hv => ?_) (fun hx => hb (hsub _ hx))⟩
  have hj : j < 9 := (List.getElem?_eq_some_iff.1 hv).1
  rw [add_none, Nat.add_assoc]
  exact hc (i * 9 + j) v (by rw [crows_get l i j hi hj]; exact hv)
theorem drop_at {α : Type} {l : List α} {j : Nat} (hj : j < l.length) : l.drop j = l[j] :: l.drop (j + 1) := List.drop_eq_getElem_cons hj
structure N3 where
  j : Nat
  s : Int
  h : Int
structure BS where
  i : Nat
  B : Bk
  v1 : Value
  v2 : Value
  k1 : Hp
  k2 : Hp
abbrev BS.H (x : BS) (b : Nat) : Hp := Tb b (Bc x.B x.v1 x.v2) :: (x.k1 ++ x.k2)
def BS.I (x : BS) (n : Nat) : Prop := x.i ≤ n ∧ x.B.Inv ∧ Side x.v1 x.B.bs x.k1 ∧ Side x.v2 x.B.ss x.k2
end Go.Proofs.Ytfajjkolhajldaa

/- The law RulesSound: its walk. -/
namespace Go.Proofs.Ytfajjkolhajldaa
open Go.V
set_option linter.unusedVariables false
set_option linter.unusedSimpArgs false

theorem Side.ld {w0 : World} {own : List Nat} {b o n c i j : Nat} {l : List Ord} {h hs : Hp} {v : Value} (k : Side (.slice (some ⟨b, o, none⟩) n c) l h) (hh : h ⊆ hs) (hi : i < l.length) (hj : j < 7) (hv : (l[i].cells)[j]? = some v) : At w0 own hs ⟨b, o + i * 7 + j, none⟩ [v] := by
  rw [Nat.add_assoc]
  exact OwnS.at1 k hh (by rw [rows_get l i j hi hj]; exact hv)
theorem Sd.at {s : Int} {l : List Ord} (h : Sd s l) {k : Nat} (hk : k + 1 < l.length) : bet s l[k + 1].pr l[k].pr = false := List.pairwise_iff_getElem.1 h k (k + 1) (by omega) hk (by omega)
abbrev Bx (b : Nat) (cc cm : Int) : Nat × Ch := (b, .cells [.int .i64 cc, .int .i64 cm] 64)
def BS.V (x : BS) (n : Nat) (cc : Int) : Prop := x.i ≤ n ∧ x.B.Vl ∧ x.B.cap = cc ∧ Side x.v1 x.B.bs x.k1 ∧ Side x.v2 x.B.ss x.k2
theorem does_cap (B : Bk) (c : Cm) : (B.does c).1.cap = B.cap ∧ (B.does c).1.meet = B.meet := by
  have hg := goes_cap B c
  unfold Bk.does
  split
  · exact ⟨rfl, rfl⟩
  · split
    · unfold Bk.comes
      split
      · exact ⟨hg.1, hg.2.1⟩
      · simp only
        split
        · unfold Bk.traded
          have := (((B.goes c).num (nx (B.goes c).seq)).top (cmg c (B.tgt c) (B.at_ c).1).o.id).put_cap (3 - (cmg c (B.tgt c) (B.at_ c).1).side)
          refine ⟨(this _).1.trans hg.1, (this _).2.1.trans hg.2.1⟩
        · split
          · unfold Bk.traded
            have := (((B.goes c).num (nx (B.goes c).seq)).top (cmg c (B.tgt c) (B.at_ c).1).o.id).put_cap (3 - (cmg c (B.tgt c) (B.at_ c).1).side)
            refine ⟨(this _).1.trans hg.1, (this _).2.1.trans hg.2.1⟩
          · have := (((B.goes c).num (nx (B.goes c).seq)).top (cmg c (B.tgt c) (B.at_ c).1).o.id).put_cap (3 - (cmg c (B.tgt c) (B.at_ c).1).side)
            refine ⟨(Bk.put_cap _ _ _).1.trans ((this _).1.trans hg.1), (Bk.put_cap _ _ _).2.1.trans ((this _).2.1.trans hg.2.1)⟩
    · exact ⟨hg.1, hg.2.1⟩
end Go.Proofs.Ytfajjkolhajldaa

/- RiskLimits: the walk. -/
namespace Go.Proofs.Ytfajjkolhajldaa
open Go.V
set_option linter.unusedVariables false
set_option linter.unusedSimpArgs false
set_option maxRecDepth 20000

theorem NewL_yes (w : World) {c m : Int} (h : Cfg c m) : Does Try.prog 18 [.agg ⟨[.int .i64 c, .int .i64 m]⟩] [] w (fun v hs => ∃ b, v = .tuple ⟨[.pointer (some ⟨b, 0, none⟩), .int .i64 0]⟩ ∧ hs = [(b, .cells (bnew c m) 117)]) := by
  have := New_ok w c m
  simp only [if_pos h] at this
  exact this
theorem NewL_no (w : World) {c m : Int} (h : ¬ Cfg c m) : Is Try.prog 18 [.agg ⟨[.int .i64 c, .int .i64 m]⟩] w (.tuple ⟨[.pointer none, .int .i64 1]⟩) := by
  have := New_ok w c m
  simp only [if_neg h] at this
  exact this
/-- what holds at a book and its desk -/
structure RLI (B : Bk) (D : Dk) (z : RZ) (N : Int) (S : List Int) : Prop where
  I : RI D z
  P : D.O.Perm (bros B)
  L : Lim D N
  R : D.R
  S : InS S D
  z0 : (D.mem 0).st = false
theorem RLI.stop {B : Bk} {D : Dk} {z z' : RZ} {N : Int} {S : List Int} (h : RLI B D z N S) (n : Int) (hI : RI (D.doStop n true) z') : RLI B (D.doStop n true) z' N S :=
  ⟨hI, by rw [Dk.doStop_O]; exact h.P, h.L.stop n true, h.R.doStop n true, h.S.stop n true, by rw [(doStop_mem D n true 0).1]; exact h.z0⟩
theorem RLI.does {B : Bk} {D : Dk} {z z' : RZ} {N : Int} {S : List Int} (h : RLI B D z N S) {c : Cm} (hV : B.Vl) (hw : c.wf) (hN : N + 4294967295 < 18446744073709551616) (ha : D.ahead c = 0) (hI : RI (D.behind (B.does c).2) z') :
    RLI (B.does c).1 (D.behind (B.does c).2) z' (N + 4294967295) (c.mb :: S) :=
  ⟨hI, (does_desk hV hw h.I.ok h.P).1, does_lim h.L hN h.R h.I.ok hV hw h.P ha, does_R h.R h.I.ok hV hw h.P, h.S.does h.I.ok hV hw h.P, by rw [(stn_behind _ D).2]; exact h.z0⟩
theorem RLI.up {B : Bk} {D : Dk} {z : RZ} {N N' : Int} {S : List Int} (h : RLI B D z N S) (e : N ≤ N') (x : Int) : RLI B D z N' (x :: S) := ⟨h.I, h.P, h.L.mono e, h.R, h.S.mono fun y hy => List.mem_cons_of_mem _ hy, h.z0⟩
/-- what holds while limits are set -/
structure RLZ (D : Dk) (z : RZ) (S : List Int) : Prop where
  I : RI D z
  O : D.O = []
  R : D.R
  S : InS S D
  m : ∀ n, (D.mem n).b = 0 ∧ (D.mem n).s = 0 ∧ ((D.mem n).st = true → 0 ≤ (D.mem n).l.cnt)
  z0 : (D.mem 0).st = false
theorem RLZ.new : RLZ Dk.new ⟨[], 0, [], 0⟩ [] := ⟨RI.new, rfl, Dk.R.new, ⟨fun m hm => (by cases hm), fun o ho => (by cases ho)⟩, fun n => ⟨rfl, rfl, fun h => (by cases h)⟩, rfl⟩
theorem RLZ.set {D : Dk} {z z' : RZ} {S : List Int} (h : RLZ D z S) (n : Int) {l : RL} (hl : l.R) (hI : RI (D.doSet n l) z') : RLZ (D.doSet n l) z' (n :: S) := by
  refine ⟨hI, ?_, h.R.doSet n hl, h.S.set n l, fun j => ?_, ?_⟩
  · have := (D.doSet_len n l).1
    rw [h.O] at this
    exact List.length_eq_zero_iff.1 this
  · rw [doSet_mem]
    split
    · rename_i e
      exact ⟨(h.m n).1, (h.m n).2.1, fun _ => by show 0 ≤ l.cnt; omega⟩
    · exact h.m j
  · rw [doSet_mem, if_neg (by rintro ⟨e, h2⟩; exact h2 (.inl e.symm))]
    exact h.z0
theorem RLZ.go {D : Dk} {z : RZ} {S : List Int} (h : RLZ D z S) (cc cm : Int) : RLI (newB cc cm) D z 0 S := ⟨h.I, by rw [h.O]; exact .refl _, Lim.new h.O h.R h.m, h.R, h.S, h.z0⟩
structure LS0 where
  i : Nat
  D : Dk
  z : RZ
  S : List Int
structure LS1 where
  j : Nat
  D : Dk
  z : RZ
structure LSM where
  i : Nat
  B : Bk
  v1 : Value
  v2 : Value
  k1 : Hp
  k2 : Hp
  D : Dk
  z : RZ
  S : List Int
abbrev cn0 : Cm := ⟨1, 0, 0, 0, 0, 0, 0, 0, 0⟩
theorem ahead_no {D : Dk} (h : (D.mem 0).st = false) : D.ahead cn0 = 210 := by
  unfold Dk.ahead aheadP
  rw [if_neg (by rintro ⟨h1 | h1, _⟩ <;> exact absurd h1 (by decide)), if_neg (fun h1 => h1.1 rfl), if_pos h]
set_option maxHeartbeats 16000000 in
theorem RiskLimits_ok (w : World) (cc cm : Int) (A0 : Option Addr) (p0 : Nat) (L : List LmT) (A : Option Addr) (cap : Nat) (l : List Cm) (A2 : Option Addr) (p2 : Nat) (ks : List Int)
    (hA0 : Rd w [] A0 (L.flatMap LmT.cells)) (hL : ∀ x ∈ L, x.l.R ∧ 0 ≤ x.m ∧ x.m < 4294967296) (hA : Rd w [] A (crows l)) (hw : ∀ c ∈ l, c.wf ∧ 0 ≤ c.mb ∧ c.mb < 4294967296 ∧ c.pr ≤ 9223372036854775807) (hA2 : Rd w [] A2 (ints .i64 ks))
    (b0 : L.length ≤ 1100000) (b1 : l.length ≤ 1100000) (b2 : ks.length ≤ 1100000) :
    Is Try.prog 6 [.agg ⟨[.int .i64 cc, .int .i64 cm, .slice A0 L.length p0, .slice A l.length cap, .slice A2 ks.length p2]⟩] w (.bool true) := by
  refine Does.pure (Does.of (n := 230) Try.func6 rfl rfl rfl rfl ?_)
  refine .seq ((.region (.nw (.box (l := [.int .i64 cc, .int .i64 cm, .slice A0 L.length p0, .slice A l.length cap, .slice A2 ks.length p2]) rfl rfl) fun b1 => (.v (.assign rfl) (.nil ?_)))))
  refine .seq ((.drawK [(b1, .cells [.int .i64 cc, .int .i64 cm, .slice A0 L.length p0, .slice A l.length cap, .slice A2 ks.length p2] 75)] (by intro y hy; simp at hy ⊢; exact hy) (by kernel_rfl) (by kernel_rfl) ?_))
  refine .v (fun _ f => .fieldAddr rfl) (.v (fun _ f => .loadA (vs := [.int .i64 cc, .int .i64 cm]) rfl (.chunk (b := b1) (l := [.int .i64 cc, .int .i64 cm, .slice A0 L.length p0, .slice A l.length cap, .slice A2 ks.length p2]) (T := 75) (hb := .sub f) (by intro j v hv; match j, hv with | 0, hv => exact hv | 1, hv => exact hv | (j + 2), hv => simp at hv)) rfl) ?_)
  refine .v (fun _ f => .fieldAddr rfl) (.v (fun _ f => .load (v := .slice A0 L.length p0) rfl (.one (hb := .sub f) rfl)) (.v (fun _ f => .fieldAddr rfl) (.v (fun _ f => .load (v := .slice A l.length cap) rfl (.one (hb := .sub f) rfl)) (.v (fun _ f => .fieldAddr rfl) (.v (fun _ f => .load (v := .slice A2 ks.length p2) rfl (.one (hb := .sub f) rfl)) ?_)))))
  refine .nw .alloc fun b3 => (.st (.sw rfl rfl) (fun f => fun y hy => by simp at hy ⊢; exact .inr hy) (.v (fun _ f => .assign rfl) (.v (fun _ f => .assign rfl) (.v (fun _ f => .assign rfl) (.nil ?_)))))
  by_cases hcfg : Cfg cc cm
  case neg =>
    refine .seq ((.region (.v (.loadA (vs := [.int .i64 cc, .int .i64 cm]) rfl .whole rfl) (.pc rfl rfl (fun w s => NewL_no w hcfg) ?_))))
    refine .v (.move rfl) (.v (.extract rfl rfl) (.v (.extract rfl rfl) (.v (.assign rfl) (.v (.assign rfl) (.nil ?_)))))
    refine .seq ((.region ?_))
    refine .ef (.call0 rfl rfl fun w s => RNew_ok w) ?_
    rintro _ _ ⟨_, ⟨p, rfl, rfl⟩, rfl⟩
    refine .v (.assign rfl) (.nil ?_)
    refine .seq (.seq ((.region (.v (.move rfl) (.v (.eql_ptr_nil rfl rfl) (.nil ?_))))))
    refine .cond_false rfl (.skip ?_)
    refine .seq (.seq ((.region (.v (.move rfl) (.v (.eql_ptr_nil rfl rfl) (.nil ?_))))))
    refine .cond_true rfl ?_
    refine .seq ((.region (.v (.move rfl) (.v (.eqi rfl rfl) (.v (.assign rfl) (.nil ?_))))))
    exact .ret ⟨[_], ⟨rfl, trivial⟩, rfl⟩
  refine .seq ((.region (.v (.loadA (vs := [.int .i64 cc, .int .i64 cm]) rfl .whole rfl) ?_)))
  refine .ef (.call0 rfl rfl fun w s => NewL_yes w hcfg) ?_
  rintro _ _ ⟨_, ⟨b, rfl, rfl⟩, rfl⟩
  refine .v (.move rfl) (.v (.extract rfl rfl) (.v (.extract rfl rfl) (.v (.assign rfl) (.v (.assign rfl) (.nil ?_)))))
  refine .seq ((.region ?_))
  refine .ef (.call0 rfl rfl fun w s => RNew_ok w) ?_
  rintro _ _ ⟨_, ⟨p, rfl, rfl⟩, rfl⟩
  refine .v (.assign rfl) (.nil ?_)
  refine .seq (.seq ((.region (.v (.move rfl) (.v (.eql_ptr_nil rfl rfl) (.nil ?_))))))
  refine .cond_false rfl (.skip ?_)
  refine .seq (.seq ((.region (.v (.move rfl) (.v (.eql_ptr_nil rfl rfl) (.nil ?_))))))
  refine .cond_false rfl (.skip ?_)
  refine .keep ([(b, .cells (bnew cc cm) 117)] ++ RZ.H p ⟨[], 0, [], 0⟩) ?_
  have new_heap : ([(b, Ch.cells (bnew cc cm) 117)] ++ RZ.H p ⟨[], 0, [], 0⟩) = (Tb b (Bc (newB cc cm) (.slice none 0 0) (.slice none 0 0)) :: ([] ++ [])) ++ RZ.H p ⟨[], 0, [], 0⟩ := rfl
  refine .mid (X := LS0) (fun _ => [(4, .slice A0 L.length p0), (5, .slice A l.length cap), (6, .slice A2 ks.length p2), (7, .pointer (some ⟨b, 0, none⟩)), (9, .pointer (some ⟨p.b, 0, none⟩))]) (fun x => (Tb b (Bc (newB cc cm) (.slice none 0 0) (.slice none 0 0)) :: ([] ++ [])) ++ x.z.H p) (fun x => RLZ x.D x.z x.S ∧ x.S.length ≤ L.length) (.seq ((.region (.v (.assign rfl) (.nil ?_))))) ?_
  · refine .block (.loop (X := LS0) (fun x => [(4, .slice A0 L.length p0), (5, .slice A l.length cap), (6, .slice A2 ks.length p2), (7, .pointer (some ⟨b, 0, none⟩)), (9, .pointer (some ⟨p.b, 0, none⟩)), (10, .int .i64 x.i)]) (fun x => (Tb b (Bc (newB cc cm) (.slice none 0 0) (.slice none 0 0)) :: ([] ++ [])) ++ x.z.H p) (fun x => x.i ≤ L.length ∧ RLZ x.D x.z x.S ∧ x.S.length ≤ x.i) (fun x => L.length - x.i) ⟨0, Dk.new, ⟨[], 0, [], 0⟩, []⟩ ⟨Nat.zero_le _, RLZ.new, Nat.le_refl _⟩ (.cons rfl (.cons rfl (.cons rfl (.cons rfl (.cons rfl (.cons rfl (.nil _))))))) (fun _ s => by rw [new_heap] at s; exact s) ?_)
    rintro ⟨i, D, z, S⟩ ⟨hi, hZ, hSl⟩
    dsimp only at hi hZ hSl ⊢
    refine .seq (.seq ((.region (.v (.move rfl) (.v (.move rfl) (.v (.len rfl) (.v (.lss rfl rfl) (.nil ?_))))))))
    refine .cond_dec rfl (fun h3 => .skip ?_) (fun h3 => .exit ?_)
    case refine_2 => exact ⟨⟨0, D, z, S⟩, ⟨hZ, by show S.length ≤ L.length; omega⟩, .cons rfl (.cons rfl (.cons rfl (.cons rfl (.cons rfl (.nil _))))), fun _ s => s⟩
    have hil : i < L.length := by omega
    obtain ⟨ba, oa, rfl, hc⟩ := Rd.recs LmT.cells 6 (fun _ => rfl) hA0 (by omega) (by omega)
    obtain ⟨hlR, hm0, hm1⟩ := hL _ (List.getElem_mem hil)
    have qm := fun hs' => fldAt LmT.cells 6 (fun _ => rfl) (z := (i : Int)) (hc hs') hil 0 (v := .int .u32 L[i].m) rfl
    have qc := fun hs' => fldAt LmT.cells 6 (fun _ => rfl) (z := (i : Int)) (hc hs') hil 3 (v := .int .i64 L[i].l.cnt) rfl
    have ql := fun hs' => at_sub (i := 1) (us := L[i].l.cells) (recAt LmT.cells 6 (fun _ => rfl) (z := (i : Int)) (hc hs') hil) (fun j u hj => by
      match j, hj with
      | 0, hj => exact hj
      | 1, hj => exact hj
      | 2, hj => exact hj
      | 3, hj => exact hj
      | 4, hj => exact hj
      | (j + 5), hj => simp [RL.cells] at hj)
    generalize L[i].m = m at qm hm0 hm1
    generalize L[i].l = ll at qc ql hlR
    refine .seq (.block (.seq ((.drawP [0, 1, 2, 3, 4, 5, 6, 7, 8, 9, 10, 13, 14, 15, 16, 17, 18, 11, 12, 19, 20, 21, 22, 23, 24, 25, 26, 27, 28] [] (List.nil_subset _) (by kernel_rfl) (by kernel_rfl) ?_))))
    refine .v (fun _ f => .move rfl) (.v (fun _ f => .move rfl) (.v (fun _ f => .move rfl) (.v (fun _ f => .indexAddr rfl rfl (by omega) (by omega)) (.v (fun _ f => .fieldAddr rfl) (.v (fun _ f => .load (v := .int .u32 m) rfl (qm _)) (.v (fun _ f => .move rfl) (.v (fun _ f => .move rfl) (.v (fun _ f => .indexAddr rfl rfl (by omega) (by omega)) (.v (fun _ f => .fieldAddr rfl) (.v (fun _ f => .loadA (vs := ll.cells) rfl (ql _) rfl) (.v (fun _ f => .move rfl) (.v (fun _ f => .move rfl) (.v (fun _ f => .indexAddr rfl rfl (by omega) (by omega)) (.v (fun _ f => .fieldAddr rfl) (.v (fun _ f => .load (v := .int .u32 m) rfl (qm _)) (.v (fun _ f => .nei rfl rfl) ?_))))))))))))))))
    refine .ef (.callT (z.H p) rfl rfl fun w s => RSet_ok w p D z hZ.I m ll) (fun _ _ _ _ => List.nil_subset _) ?_
    rintro _ _ ⟨_, ⟨z', ⟨rfl, hI'⟩, rfl⟩, rfl⟩
    refine .v (fun _ f => .eqi rfl rfl) (.v (fun _ f => .move rfl) (.and (b2 := decide (ll.cnt ≥ 0)) 64 71 7 7 rfl rfl (fun g1 => .v (fun _ f => .move rfl) (.v (fun _ f => .move rfl) (.v (fun _ f => .indexAddr rfl rfl (by omega) (by omega)) (.v (fun _ f => .fieldAddr rfl) (.v (fun _ f => .fieldAddr rfl) (.v (fun _ f => .load (v := .int .i64 ll.cnt) rfl (qc _)) (.v (fun _ f => .geq rfl rfl) (.nil ⟨rfl, rfl, rfl, rfl⟩)))))))) (.v (fun _ f => Val.as (v' := .bool false) (.neb rfl rfl) ?_) (.nil ?_))))
    · have : decide (setV m ll.cnt = 0) = (decide (m ≠ 0) && decide (ll.cnt ≥ 0)) := by
        unfold setV
        by_cases e1 : m = 0
        · simp [e1]
        · by_cases e2 : ll.cnt < 0
          · simp [e1, e2]
          · simp [e1, e2]; omega
      rw [this]; simp
    refine .cond_false rfl (.skip ?_)
    refine .region (.v (.move rfl) (.v (.addi rfl rfl (by omega)) (.v (.assign rfl) (.nil ?_))))
    exact ⟨⟨i + 1, D.doSet m ll, z', m :: S⟩, ⟨hil, hZ.set m hlR hI', by show (m :: S).length ≤ i + 1; rw [List.length_cons]; omega⟩, by show L.length - (i + 1) < L.length - i; omega, .cons rfl (.cons rfl (.cons rfl (.cons rfl (.cons rfl (.cons rfl (.nil _)))))), fun _ s => s.take⟩
  rintro ⟨_, D0, z0, S0⟩ ⟨hZ0, hS0⟩
  dsimp only at hZ0 hS0 ⊢
  refine .seq (.seq ((.region (.v (.assign rfl) (.nil ?_)))))
  refine .block (.loop (X := LSM) (fun x => [(4, .slice A0 L.length p0), (5, .slice A l.length cap), (6, .slice A2 ks.length p2), (7, .pointer (some ⟨b, 0, none⟩)), (9, .pointer (some ⟨p.b, 0, none⟩)), (11, .int .i64 x.i)]) (fun x => (Tb b (Bc x.B x.v1 x.v2) :: (x.k1 ++ x.k2)) ++ x.z.H p)
    (fun x => x.i ≤ l.length ∧ (x.B.Vl ∧ Side x.v1 x.B.bs x.k1 ∧ Side x.v2 x.B.ss x.k2) ∧ RLI x.B x.D x.z (4294967295 * x.i) x.S ∧ x.S.length ≤ L.length + x.i)
    (fun x => l.length - x.i) ⟨0, newB cc cm, .slice none 0 0, .slice none 0 0, [], [], D0, z0, S0⟩ ⟨Nat.zero_le _, ⟨newB_vl hcfg, OwnS.nil _ _, OwnS.nil _ _⟩, hZ0.go cc cm, hS0⟩
    (.cons rfl (.cons rfl (.cons rfl (.cons rfl (.cons rfl (.cons rfl (.nil _))))))) (fun _ s => s) ?_)
  clear hZ0 hS0
  rintro ⟨i, B, v1, v2, k1, k2, D, z, S⟩ ⟨hi, ⟨hV, s1, s2⟩, hR, hSl⟩
  dsimp only at hi hV s1 s2 hR hSl ⊢
  refine .seq (.seq ((.region (.v (.move rfl) (.v (.move rfl) (.v (.len rfl) (.v (.lss rfl rfl) (.nil ?_))))))))
  have hBl : ∀ {B : Bk}, B.Vl → (bros B).length ≤ 4096 := fun {B} hV => by
    have h1 := hV.len
    have h2 := hV.cfg.2.1
    unfold bros
    simp only [List.length_append, List.length_map]
    omega
  refine .cond_dec rfl (fun h5 => .skip ?_) (fun h5 => .exit ?_)
  case refine_2 =>
    have hOl := hR.P.length_eq
    have h4 := hBl hV
    refine .seq ((.region (.v (.move rfl) (.v (.build (out := cn0.cells) rfl rfl) ?_))))
    refine .ef (.callT (z.H p) rfl rfl fun w s => RAhead_ok w p D z hR.I hR.R cn0 (by omega) ⟨by show (0 : Int) ≤ 0; omega, by show (0 : Int) < 18446744073709551616; omega⟩ (by show (0 : Int) ≤ 9223372036854775807; omega)) ?_
    rintro _ _ ⟨_, ⟨rfl, rfl⟩, rfl⟩
    rw [ahead_no hR.z0]
    refine .v (.eqi rfl rfl) (.v (.assign rfl) (.nil ?_))
    exact .ret ⟨[_], ⟨rfl, trivial⟩, rfl⟩
  have hil : i < l.length := by omega
  obtain ⟨ba, oa, rfl, hat⟩ := Rd.cm hA (by omega)
  obtain ⟨hcw, hm0, hm1, hpr⟩ := hw _ (List.getElem_mem hil)
  have hat := hat i hil
  have q0 := fun hs' => at_sub (i := 0) (us := [.int .i64 l[i].k]) (hat [] hs' (by simp)) (fun j u hj => by
    match j, hj with
    | 0, hj => simp at hj; subst hj; rfl)
  have q3 := fun hs' => at_sub (i := 3) (us := [.int .u32 l[i].mb]) (hat [] hs' (by simp)) (fun j u hj => by
    match j, hj with
    | 0, hj => simp at hj; subst hj; rfl)
  generalize l[i] = c at hat hcw hm0 hm1 hpr q0 q3
  refine .seq (.block (.mid (X := LS1) (fun x => [(4, .slice A0 L.length p0), (5, .slice (some ⟨ba, oa, none⟩) l.length cap), (6, .slice A2 ks.length p2), (7, .pointer (some ⟨b, 0, none⟩)), (9, .pointer (some ⟨p.b, 0, none⟩)), (11, .int .i64 (i : Nat))]) (fun x => (Tb b (Bc B v1 v2) :: (k1 ++ k2)) ++ x.z.H p) (fun x => RLI B x.D x.z (4294967295 * (i : Int)) S) (.seq ((.region (.v (.assign rfl) (.nil ?_))))) ?_))
  · refine .block (.loop (X := LS1) (fun x => [(4, .slice A0 L.length p0), (5, .slice (some ⟨ba, oa, none⟩) l.length cap), (6, .slice A2 ks.length p2), (7, .pointer (some ⟨b, 0, none⟩)), (9, .pointer (some ⟨p.b, 0, none⟩)), (11, .int .i64 (i : Nat)), (12, .int .i64 x.j)]) (fun x => (Tb b (Bc B v1 v2) :: (k1 ++ k2)) ++ x.z.H p) (fun x => x.j ≤ ks.length ∧ x.j ≤ L.length ∧ RLI B x.D x.z (4294967295 * (i : Int)) S) (fun x => ks.length - x.j) ⟨0, D, z⟩ ⟨Nat.zero_le _, Nat.zero_le _, hR⟩ (.cons rfl (.cons rfl (.cons rfl (.cons rfl (.cons rfl (.cons rfl (.cons rfl (.nil _)))))))) (fun _ s => s) ?_)
    clear hR
    rintro ⟨j, D, z⟩ ⟨hj, hj2, hR⟩
    dsimp only at hj hj2 hR ⊢
    refine .seq (.seq ((.region (.v (.move rfl) (.v (.move rfl) (.v (.len rfl) (.v (.lss rfl rfl) (.v (.move rfl) (.and (b2 := decide ((j : Int) < L.length)) 84 88 4 4 rfl rfl (fun g2 => .v (.move rfl) (.v (.move rfl) (.v (.len rfl) (.v (.lss rfl rfl) (.nil ⟨rfl, rfl, rfl, rfl⟩))))) (.nil ?_))))))))))
    refine .cond rfl (fun h6 => .skip ?_) (fun h6 => .exit ?_)
    case refine_2 => exact ⟨⟨0, D, z⟩, hR, .cons rfl (.cons rfl (.cons rfl (.cons rfl (.cons rfl (.cons rfl (.nil _)))))), fun _ s => s⟩
    have h6' : (j : Int) < ks.length ∧ (j : Int) < L.length := by simpa using h6
    have hjk : j < ks.length := by omega
    have hjL : j < L.length := by omega
    obtain ⟨bk, ok, rfl, hk⟩ := hA2.base (by rw [ints_len]; omega)
    have f2 := fun hs' => (Rd.cell (hs := hs') hA2 (ints_at hjk))
    generalize ks[j] = kk at f2
    refine .mid (X := LS1) (fun x => [(4, .slice A0 L.length p0), (5, .slice (some ⟨ba, oa, none⟩) l.length cap), (6, .slice (some ⟨bk, ok, none⟩) ks.length p2), (7, .pointer (some ⟨b, 0, none⟩)), (9, .pointer (some ⟨p.b, 0, none⟩)), (11, .int .i64 (i : Nat)), (12, .int .i64 (j : Nat))]) (fun x => (Tb b (Bc B v1 v2) :: (k1 ++ k2)) ++ x.z.H p) (fun x => RLI B x.D x.z (4294967295 * (i : Int)) S) (.block (.seq ((.region (.v (.move rfl) (.v (.move rfl) (.v (.indexN j rfl rfl (by omega)) (.v (.load (v := .int .i64 kk) rfl (f2 _)) (.v (.move rfl) (.v (.eqi rfl rfl) (.nil ?_))))))))))) ?_
    · refine .cond_dec rfl (fun h7 => ?_) (fun h7 => .skip ?_)
      · obtain ⟨bL, oL, rfl, hc⟩ := Rd.recs LmT.cells 6 (fun _ => rfl) hA0 (by omega) (by omega)
        have qm := fun hs' => fldAt LmT.cells 6 (fun _ => rfl) (z := (j : Int)) (hc hs') hjL 0 (v := .int .u32 L[j].m) rfl
        obtain ⟨-, hm0, hm1⟩ := hL _ (List.getElem_mem hjL)
        generalize L[j].m = m at qm hm0 hm1
        have hOl := hR.P.length_eq
        have h4 := hBl hV
        refine .region (.v (.move rfl) (.v (.move rfl) (.v (.move rfl) (.v (.indexAddr rfl rfl (by omega) (by omega)) (.v (.fieldAddr rfl) (.v (.load (v := .int .u32 m) rfl (qm _)) ?_))))))
        refine .ef (.callT (z.H p) rfl rfl fun w s => RKill_ok w p D z hR.I m (by omega)) ?_
        rintro _ _ ⟨_, ⟨z1', v1, h1, ⟨rfl, -, hI1'⟩, rfl⟩, rfl⟩
        refine .nil ?_
        exact ⟨⟨0, D.doStop m true, z1'⟩, hR.stop m hI1', .cons rfl (.cons rfl (.cons rfl (.cons rfl (.cons rfl (.cons rfl (.cons rfl (.nil _))))))), fun _ s => s.take⟩
      · exact ⟨⟨0, D, z⟩, hR, .cons rfl (.cons rfl (.cons rfl (.cons rfl (.cons rfl (.cons rfl (.cons rfl (.nil _))))))), fun _ s => s⟩
    rintro ⟨_, D', z'⟩ hR'
    dsimp only at hR' ⊢
    refine .region (.v (.move rfl) (.v (.addi rfl rfl (by omega)) (.v (.assign rfl) (.nil ?_))))
    exact ⟨⟨j + 1, D', z'⟩, ⟨by show j + 1 ≤ ks.length; omega, by show j + 1 ≤ L.length; omega, hR'⟩, by show ks.length - (j + 1) < ks.length - j; omega, .cons rfl (.cons rfl (.cons rfl (.cons rfl (.cons rfl (.cons rfl (.cons rfl (.nil _))))))), fun _ s => s⟩
  clear hR
  rintro ⟨_, D, z⟩ hR
  dsimp only at hR ⊢
  have hOl := hR.P.length_eq
  have h4 := hBl hV
  have hS1 := fun w => RStanding_ok w p D z hR.I c.mb (by omega)
  have hz := ahead_zero (D := D) (c := c)
  have hkl : (D.mem c.mb).st = true → (if (D.mem c.mb).st then D.stand c.mb else sg0).kl = (D.mem c.mb).kl := fun h => by rw [if_pos h]; rfl
  unfold Dk.standV at hS1
  generalize (if (D.mem c.mb).st then D.stand c.mb else sg0) = SS at hS1 hkl
  have hz1 : D.ahead c = 0 → (c.k = 1 ∨ c.k = 3) → (D.mem c.mb).st = true ∧ SS.kl = false := fun h1 h2 => by
    obtain ⟨a1, a2, -⟩ := hz h1 h2
    exact ⟨a1, by rw [hkl a1]; exact a2⟩
  clear hz hkl
  generalize (D.mem c.mb).st = sst at hS1 hz1
  refine .seq ((.region (.v (.move rfl) (.v (.move rfl) (.v (.move rfl) (.v (.indexAddr rfl rfl (by omega) (by omega)) (.v (.fieldAddr rfl) (.v (.load (v := .int .u32 c.mb) rfl (q3 _)) ?_))))))))
  refine .ef (.callT (z.H p) rfl rfl fun w s => hS1 w) ?_
  rintro _ _ ⟨_, ⟨rfl, rfl⟩, rfl⟩
  refine .v (.move rfl) (.v (.extract rfl rfl) (.v (.extract rfl rfl) (.nw .alloc fun b13 => (.st (.sw rfl rfl) (.v (.assign rfl) (.nil ?_))))))
  refine .keep ((b13, .cells SS.cells 42) :: ((Tb b (Bc B v1 v2) :: (k1 ++ k2)) ++ z.H p)) ?_
  refine .mid (X := LSM) (fun x => [(4, .slice A0 L.length p0), (5, .slice (some ⟨ba, oa, none⟩) l.length cap), (6, .slice A2 ks.length p2), (7, .pointer (some ⟨b, 0, none⟩)), (9, .pointer (some ⟨p.b, 0, none⟩)), (11, .int .i64 (i : Nat))]) (fun x => (Tb b (Bc x.B x.v1 x.v2) :: (x.k1 ++ x.k2)) ++ x.z.H p)
    (fun x => (x.B.Vl ∧ Side x.v1 x.B.bs x.k1 ∧ Side x.v2 x.B.ss x.k2) ∧ RLI x.B x.D x.z (4294967295 * ((i + 1 : Nat) : Int)) x.S ∧ x.S.length ≤ L.length + (i + 1)) (.seq ((.region (.v (.move rfl) (.v (.move rfl) (.v (.move rfl) (.v (.indexAddr rfl rfl (by omega) (by omega)) (.v (.loadA (vs := c.cells) rfl (hat _ _ (by simp [bl])) rfl) ?_)))))))) ?_
  · refine .ef (.callT (z.H p) rfl rfl fun w s => RAhead_ok w p D z hR.I hR.R c (by omega) (by have := hcw.2.1; unfold U at this; exact ⟨this.1, by omega⟩) hpr) ?_
    rintro _ _ ⟨_, ⟨rfl, rfl⟩, rfl⟩
    refine .v (.eqi rfl rfl) (.nil ?_)
    refine .keep ((b13, .cells SS.cells 42) :: ((Tb b (Bc B v1 v2) :: (k1 ++ k2)) ++ z.H p)) ?_
    refine .cond_dec rfl (fun h8 => ?_) (fun h8 => .skip ?_)
    case refine_2 =>
      exact ⟨⟨i, B, v1, v2, k1, k2, D, z, c.mb :: S⟩, ⟨⟨hV, s1, s2⟩, hR.up (by omega) c.mb, by show (c.mb :: S).length ≤ _; rw [List.length_cons]; omega⟩, .cons rfl (.cons rfl (.cons rfl (.cons rfl (.cons rfl (.cons rfl (.nil _)))))), fun _ s => s.take⟩
    refine .seq (.seq ((.region (.v (.move rfl) (.v (.move rfl) (.v (.indexAddr rfl rfl (by omega) (by omega)) (.v (.fieldAddr rfl) (.v (.load (v := .int .i64 c.k) rfl (q0 _)) (.v (.eqi rfl rfl) (.v (.move rfl) (.or (b2 := decide (c.k = 3)) 128 134 6 6 rfl rfl (fun g3 => .v (.move rfl) (.v (.move rfl) (.v (.indexAddr rfl rfl (by omega) (by omega)) (.v (.fieldAddr rfl) (.v (.load (v := .int .i64 c.k) rfl (q0 _)) (.v (.eqi rfl rfl) (.nil ⟨rfl, rfl, rfl, rfl⟩))))))) (.v (.move rfl) (.and (b2 := !sst || SS.kl) 136 142 6 4 rfl rfl (fun g4 => .v (.move rfl) (.v (.not rfl) (.v (.move rfl) (.or (b2 := SS.kl) 139 141 2 2 rfl rfl (fun g5 => .v (.fieldAddr rfl) (.v (.load (v := .bool SS.kl) rfl (.one rfl)) (.nil ⟨rfl, rfl, rfl, rfl⟩))) (.nil ⟨rfl, rfl, rfl, rfl⟩))))) (.nil ?_))))))))))))))
    refine .cond rfl (fun h9 => ?_) (fun h9 => .skip ?_)
    · exfalso
      rw [Bool.and_eq_true, Bool.or_eq_true, decide_eq_true_eq, decide_eq_true_eq] at h9
      obtain ⟨a1, a2⟩ := hz1 h8 h9.1
      rw [a1, a2] at h9
      simp at h9
    have hel := does_len hV.inv hcw
    have hV' := does_vl hV hcw
    have hgo := fun z' hI' => hR.does (z' := z') hV hcw (by omega) h8 hI'
    refine .region (.v (.move rfl) (.v (.move rfl) (.v (.move rfl) (.v (.move rfl) (.v (.indexAddr rfl rfl (by omega) (by omega)) (.v (.loadA (vs := c.cells) rfl (hat _ _ (by simp [bl])) rfl) ?_))))))
    refine .ef (.callT (Tb b (Bc B v1 v2) :: (k1 ++ k2)) rfl rfl (fun w s => Does.call_Do w b B hV.inv.ok c hcw.2.1 hcw.2.2 v1 v2 k1 k2 s1 s2)) ?_
    generalize hDo : B.does c = DD at hV' hel hgo
    obtain ⟨B', evs⟩ := DD
    dsimp only at hV' hel hgo ⊢
    rintro _ _ ⟨_, ⟨Ae, ce, v1', v2', k1', k2', ke, rfl, rfl, s1', s2', hE⟩, rfl⟩
    refine .ef (.callT (z.H p) rfl rfl fun w s => RBehind_ok w p D z hR.I evs Ae ce (OwnS.rd hE s (fun y hy => by simp [hy]) (Sat.apart (a := ke) (b := z.H p) s)) (by omega)) ?_
    rintro _ _ ⟨_, ⟨z', hI', rfl⟩, rfl⟩
    refine .nil ?_
    have hgo' := hgo z' hI'
    have eN : 4294967295 * (i : Int) + 4294967295 = 4294967295 * ((i + 1 : Nat) : Int) := by omega
    rw [eN] at hgo'
    exact ⟨⟨i, B', v1', v2', k1', k2', D.behind evs, z', c.mb :: S⟩, ⟨⟨hV', s1', s2'⟩, hgo', by show (c.mb :: S).length ≤ _; rw [List.length_cons]; omega⟩, .cons rfl (.cons rfl (.cons rfl (.cons rfl (.cons rfl (.cons rfl (.nil _)))))), fun _ s => s.take⟩
  clear hR hS1 hz1 hOl h4 s1 s2 hV hSl
  rintro ⟨_, B, v1, v2, k1, k2, D, z, S⟩ ⟨⟨hV, s1, s2⟩, hR, hSl⟩
  dsimp only at hV s1 s2 hR hSl ⊢
  have hOl := hR.P.length_eq
  have h4 := hBl hV
  have hMl := hR.S.len hR.I.ok
  refine .seq ((.region (.v (.move rfl) ?_)))
  refine .ef (.callT (z.H p) rfl rfl fun w s => RMembers_ok w p D z hR.I (by omega)) ?_
  rintro v _ ⟨_, ⟨hm, om, rfl⟩, rfl⟩
  obtain ⟨Am, km, rfl⟩ := OwnS.slice om
  refine .v (.assign rfl) (.nil ?_)
  have hml : D.membL.length ≤ D.M.length := by
    unfold Dk.membL; rw [srt_len, List.length_map]; exact List.length_filter_le ..
  have hmst := fun x (hx : x ∈ D.membL) => membL_st hR.I.ok hx
  generalize D.membL = who at om hml hmst
  refine .keep (hm ++ ((Tb b (Bc B v1 v2) :: (k1 ++ k2)) ++ z.H p)) ?_
  refine .seq ((.region (.v (.assign rfl) (.nil ?_))))
  refine .block (.loop (X := Nat) (fun j => [(4, .slice A0 L.length p0), (5, .slice (some ⟨ba, oa, none⟩) l.length cap), (6, .slice A2 ks.length p2), (7, .pointer (some ⟨b, 0, none⟩)), (9, .pointer (some ⟨p.b, 0, none⟩)), (11, .int .i64 (i : Nat)), (15, .slice Am who.length km), (16, .int .i64 (j : Nat))]) (fun _ => hm ++ ((Tb b (Bc B v1 v2) :: (k1 ++ k2)) ++ z.H p)) (fun j => j ≤ who.length) (fun j => who.length - j) 0 (Nat.zero_le _) (.cons rfl (.cons rfl (.cons rfl (.cons rfl (.cons rfl (.cons rfl (.cons rfl (.cons rfl (.nil _))))))))) (fun _ s => s) ?_)
  intro j hj
  refine .seq (.seq ((.region (.v (.move rfl) (.v (.move rfl) (.v (.len rfl) (.v (.lss rfl rfl) (.nil ?_))))))))
  refine .cond_dec rfl (fun h10 => .skip ?_) (fun h10 => .exit ?_)
  case refine_2 =>
    refine .region (.v (.move rfl) (.v (.addi rfl rfl (by omega)) (.v (.assign rfl) (.nil ?_))))
    exact ⟨⟨i + 1, B, v1, v2, k1, k2, D, z, S⟩, ⟨hil, ⟨hV, s1, s2⟩, hR, hSl⟩, by show l.length - (i + 1) < l.length - i; omega, .cons rfl (.cons rfl (.cons rfl (.cons rfl (.cons rfl (.cons rfl (.nil _)))))), fun _ s => s.take⟩
  have hjl : j < who.length := by omega
  obtain ⟨bw, ow, lw, rfl, -, rfl, -, -, -⟩ := OwnS.some_ om (by omega)
  have f3 := fun hs' hsub => OwnS.at1 (w0 := w) (own := []) (hs := hs') om hsub (ints_at hjl)
  have hxs := hmst _ (List.getElem_mem hjl)
  generalize who[j] = x at f3 hxs
  have hW := hR.L.within (by omega) x hxs
  have hS2 := fun w => RStanding_ok w p D z hR.I x (by omega)
  unfold Dk.standV at hS2
  rw [hxs, if_pos rfl] at hS2
  generalize D.stand x = Sx at hS2 hW
  refine .seq (.block (.seq ((.region (.v (.move rfl) (.v (.move rfl) (.v (.move rfl) (.v (.indexN j rfl rfl (by omega)) (.v (.load (v := .int .u32 x) rfl (f3 _ (fun y hy => by simp at hy; subst hy; simp))) ?_)))))))))
  refine .ef (.callT (z.H p) rfl rfl fun w s => hS2 w) ?_
  rintro _ _ ⟨_, ⟨rfl, rfl⟩, rfl⟩
  refine .v (.move rfl) (.v (.extract rfl rfl) (.v (.extract rfl rfl) (.nw .alloc fun b17 => (.st (.sw rfl rfl) (.v (.assign rfl) (.nil ?_))))))
  refine .keep ((b17, .cells Sx.cells 42) :: ([(bw, .cells lw 29)] ++ ((Tb b (Bc B v1 v2) :: (k1 ++ k2)) ++ z.H p))) ?_
  refine .seq ((.region (.v (.move rfl) (.v (.not rfl) (.v (.move rfl) (.or (b2 := false) 171 177 6 6 rfl rfl (fun g6 => .v (.fieldAddr rfl) (.v (.load (v := .int .i64 Sx.c) rfl (.one rfl)) (.v (.fieldAddr rfl) (.v (.fieldAddr rfl) (.v (.load (v := .int .i64 Sx.l.cnt) rfl (.one rfl)) (.v (.no (.gtr rfl rfl) hW.c) (.nil ⟨rfl, rfl, rfl, rfl⟩))))))) (.v (.move rfl) (.or (b2 := false) 179 188 9 9 rfl rfl (fun g7 => .v (.fieldAddr rfl) (.v (.load (v := .int .u64 Sx.bu) rfl (.one rfl)) (.v (.fieldAddr rfl) (.v (.load (v := .int .u64 Sx.se) rfl (.one rfl)) (.v (.add rfl rfl) (.v (.fieldAddr rfl) (.v (.fieldAddr rfl) (.v (.load (v := .int .u64 Sx.l.op) rfl (.one rfl)) (.v (.no (.gtr rfl rfl) hW.o) (.nil ⟨rfl, rfl, rfl, rfl⟩)))))))))) (.v (.move rfl) (.or (b2 := decide (Sx.b > Sx.s) && decide (IntKind.u64.wrap (Sx.b - Sx.s) > Sx.l.pos)) 190 206 16 7 rfl rfl (fun g8 => .v (.fieldAddr rfl) (.v (.load (v := .int .u64 Sx.b) rfl (.one rfl)) (.v (.fieldAddr rfl) (.v (.load (v := .int .u64 Sx.s) rfl (.one rfl)) (.v (.gtr rfl rfl) (.v (.move rfl) (.and (b2 := decide (IntKind.u64.wrap (Sx.b - Sx.s) > Sx.l.pos)) 196 205 9 9 rfl rfl (fun g9 => .v (.fieldAddr rfl) (.v (.load (v := .int .u64 Sx.b) rfl (.one rfl)) (.v (.fieldAddr rfl) (.v (.load (v := .int .u64 Sx.s) rfl (.one rfl)) (.v (.sub_ rfl rfl) (.v (.fieldAddr rfl) (.v (.fieldAddr rfl) (.v (.load (v := .int .u64 Sx.l.pos) rfl (.one rfl)) (.v (.gtr rfl rfl) (.nil ⟨rfl, rfl, rfl, rfl⟩)))))))))) (.nil ⟨rfl, rfl, rfl, rfl⟩)))))))) (.v (.move rfl) (.or (b2 := decide (Sx.s > Sx.b) && decide (IntKind.u64.wrap (Sx.s - Sx.b) > Sx.l.pos)) 208 224 16 7 rfl rfl (fun g10 => .v (.fieldAddr rfl) (.v (.load (v := .int .u64 Sx.s) rfl (.one rfl)) (.v (.fieldAddr rfl) (.v (.load (v := .int .u64 Sx.b) rfl (.one rfl)) (.v (.gtr rfl rfl) (.v (.move rfl) (.and (b2 := decide (IntKind.u64.wrap (Sx.s - Sx.b) > Sx.l.pos)) 214 223 9 9 rfl rfl (fun g11 => .v (.fieldAddr rfl) (.v (.load (v := .int .u64 Sx.s) rfl (.one rfl)) (.v (.fieldAddr rfl) (.v (.load (v := .int .u64 Sx.b) rfl (.one rfl)) (.v (.sub_ rfl rfl) (.v (.fieldAddr rfl) (.v (.fieldAddr rfl) (.v (.load (v := .int .u64 Sx.l.pos) rfl (.one rfl)) (.v (.gtr rfl rfl) (.nil ⟨rfl, rfl, rfl, rfl⟩)))))))))) (.nil ⟨rfl, rfl, rfl, rfl⟩)))))))) (.nil ?_)))))))))))))
  refine .cond rfl (fun h11 => ?_) (fun h11 => .skip ?_)
  · exfalso
    simp only [Bool.not_true, Bool.false_or, Bool.or_eq_true, Bool.and_eq_true, decide_eq_true_eq] at h11
    rcases h11 with ⟨x1, x2⟩ | ⟨x1, x2⟩
    · exact hW.b x1 x2
    · exact hW.s x1 x2
  refine .region (.v (.move rfl) (.v (.addi rfl rfl (by omega)) (.v (.assign rfl) (.nil ?_))))
  exact ⟨j + 1, by omega, by omega, .cons rfl (.cons rfl (.cons rfl (.cons rfl (.cons rfl (.cons rfl (.cons rfl (.cons rfl (.nil _)))))))), fun _ s => s.take⟩
end Go.Proofs.Ytfajjkolhajldaa

/- VN: slices of anything that come in: the cells of each element, and what each is read as. -/
namespace Go
namespace V
open Go.RowKit Go.ChangeShapes Go.WideShapes Go.ChangeAt
set_option linter.unusedVariables false

/-- these cells are read as 'd' -/
def TC {H : Type} (enc : TypeId × Value → H) (P : Program) (w : World) (base : Nat) (spare : Nat → Bool) (held : Bool) (t : TypeId) (cs : List Value) (d : DataW H) : Prop :=
  ∃ fuel p, DataW.trod enc P w base spare held fuel t cs = some (d, p)
section
variable {H : Type} {enc : TypeId × Value → H} {P : Program} {w : World} {base : Nat} {spare : Nat → Bool} {held : Bool}
theorem TC.of {t : TypeId} {v : Value} {cs : List Value} {d : DataW H} {p : List MemPlace} (h : DataW.Trod enc P w base spare held t v d p) (hc : v.cells = ⟨cs⟩) : TC enc P w base spare held t cs d := by
  obtain ⟨fuel, hf⟩ := h
  rw [hc] at hf
  exact ⟨fuel, p, hf⟩
theorem TC.int {t : TypeId} {k : IntKind} {cs : List Value} {d : DataW H} (ht : P.underlying t = some (.int k)) (h : TC enc P w base spare held t cs d) : ∃ n, cs = [.int k n] ∧ (Lit.int k n).wf = true := by
  obtain ⟨fuel, p, hf⟩ := h
  obtain ⟨n, h1, _, h2⟩ := DataW.trod_int ht hf
  exact ⟨n, h1, h2⟩
theorem TC.bool {t : TypeId} {cs : List Value} {d : DataW H} (ht : P.underlying t = some .bool) (h : TC enc P w base spare held t cs d) : ∃ b, cs = [.bool b] := by
  obtain ⟨fuel, p, hf⟩ := h
  obtain ⟨b, h1, _⟩ := DataW.trod_bool ht hf
  exact ⟨b, h1⟩
theorem TC.plain {t : TypeId} {cs : List Value} {d : DataW H} {ls : List Lf} (hl : leaves P 8 t = some ls) (hs : P.cellsOf t = ls.length) (h : TC enc P w base spare held t cs d) : okw ls cs := by
  obtain ⟨fuel, p, hf⟩ := h
  exact trod_plain 8 t ls fuel cs _ hl hs hf
/-- a struct's fields -/
theorem TC.struct {t : TypeId} {fs : Array Field} {cs : List Value} {d : DataW H} (ht : P.underlying t = some (.struct fs)) (h : TC enc P w base spare held t cs d) :
    ∃ ds, d = .agg ds ∧ ds.length = fs.size ∧ cs.length = P.cellsOf t ∧ ∀ (i : Nat) (f : Field) (di : DataW H), fs[i]? = some f → ds[i]? = some di → TC enc P w base spare held f.type ((cs.drop f.offset).take (P.cellsOf f.type)) di := by
  obtain ⟨fuel, p, hf⟩ := h
  obtain ⟨xs, n, _, hx, hl, hn, hf⟩ := DataW.trod_struct ht hf
  simp only [Prod.mk.injEq] at hx
  refine ⟨xs.map (·.1), hx.1, by simpa using hn, hl, fun i f di h1 h2 => ?_⟩
  have := hf i f h1
  rw [List.getElem?_map] at h2
  cases h3 : xs[i]? with
  | none => rw [h3] at h2; cases h2
  | some x =>
    rw [h3] at h2 this
    simp at h2
    exact ⟨n, x.2, by rw [this, ← h2]⟩
/-- a slice's elements -/
theorem TC.slice {t e m : Nat} {cs : List Value} {d : DataW H} (ht : P.underlying t = some (.slice e)) (hm : P.cellsOf e = m) (h0 : 0 < m) (h : TC enc P w base spare held t cs d) :
    ∃ A len cap, ∃ (css : List (List Value)) (ds : List (DataW H)), cs = [.slice A len cap] ∧ css.length = len ∧ ds.length = len ∧ (∀ c ∈ css, c.length = m) ∧ (∀ (i : Nat) (c : List Value), css[i]? = some c → ∀ (j : Nat) (v : Value), c[j]? = some v → ∃ b o, A = some ⟨b, o, none⟩ ∧ w.cell? ⟨b, o + (i * m + j), none⟩ = some v) ∧
      (d = .nil ∧ len = 0 ∨ ∃ sp, d = .slice ds sp) ∧ ∀ (i : Nat) (c : List Value) (di : DataW H), css[i]? = some c → ds[i]? = some di → TC enc P w base spare held e c di := by
  obtain ⟨fuel, p, hf⟩ := h
  rcases DataW.trod_slice ht hf with ⟨rfl, hx⟩ | ⟨a, len, cap, elems, rest, n, _, rfl, hx, hb, hl, hc, hn, he, _⟩
  · simp only [Prod.mk.injEq] at hx
    exact ⟨none, 0, 0, [], [], rfl, rfl, rfl, by simp, by simp, .inl ⟨hx.1, rfl⟩, by simp⟩
  · simp only [Prod.mk.injEq] at hx
    rw [hm] at he
    have each : ∀ i, i < len → ∃ c x, w.cells? base (a.add (i * m)) m = some c ∧ DataW.trod enc P w base spare held n e c = some x ∧ elems[i]? = some x := by
      intro i hi
      have := he i hi
      rw [List.getElem?_eq_getElem (by omega)] at this
      obtain ⟨c, h1, h2⟩ := Option.bind_eq_some_iff.1 this
      exact ⟨c, _, h1, h2, List.getElem?_eq_getElem (by omega)⟩
    have hcs : ∃ css : List (List Value), css.length = len ∧ ∀ i c, css[i]? = some c → ∃ x, w.cells? base (a.add (i * m)) m = some c ∧ DataW.trod enc P w base spare held n e c = some x ∧ elems[i]? = some x := by
      have key : ∀ k, k ≤ len → ∃ css : List (List Value), css.length = k ∧ ∀ i c, css[i]? = some c → ∃ x, w.cells? base (a.add (i * m)) m = some c ∧ DataW.trod enc P w base spare held n e c = some x ∧ elems[i]? = some x := by
        intro k
        induction k with
        | zero => intro _; exact ⟨[], rfl, by simp⟩
        | succ k ih =>
          intro hk
          obtain ⟨css, h1, h2⟩ := ih (by omega)
          obtain ⟨c, x, h3⟩ := each k (by omega)
          refine ⟨css ++ [c], by simp [h1], fun i c' hc' => ?_⟩
          by_cases hi : i < k
          · rw [List.getElem?_append_left (by omega)] at hc'
            exact h2 i c' hc'
          · rw [List.getElem?_append_right (by omega)] at hc'
            have hik : i = k := by
              have := (List.getElem?_eq_some_iff.1 hc').1
              simp at this; omega
            subst hik
            simp [h1] at hc'
            subst hc'
            exact ⟨x, h3⟩
      exact key len (Nat.le_refl _)
    obtain ⟨css, h1, h2⟩ := hcs
    refine ⟨some a, len, cap, css, elems.map (·.1), rfl, h1, by simpa using hn, fun c hc => ?_, fun i c hc j v hv => ?_, .inr ⟨_, hx.1⟩, fun i c di hc hdi => ?_⟩
    · obtain ⟨i, hi⟩ := List.mem_iff_getElem?.1 hc
      obtain ⟨x, h3, _⟩ := h2 i c hi
      exact (World.cells?_some h3).2.1
    · obtain ⟨x, h3, _⟩ := h2 i c hc
      obtain ⟨g1, g2, g3⟩ := World.cells?_some h3
      have hj := (List.getElem?_eq_some_iff.1 hv).1
      have hcell := g3 j (by omega)
      rw [hv] at hcell
      obtain ⟨b, o, sp⟩ := a
      have hsp : sp = none := by
        have hlt : 0 < css.length := by
          have := (List.getElem?_eq_some_iff.1 hc).1
          omega
        obtain ⟨x0, k3, _⟩ := h2 0 css[0] (List.getElem?_eq_getElem hlt)
        obtain ⟨_, k2, k4⟩ := World.cells?_some k3
        have := k4 0 h0
        rw [List.getElem?_eq_getElem (by omega)] at this
        simpa [Addr.add] using World.cell?_spot this
      subst hsp
      refine ⟨b, o, rfl, ?_⟩
      rw [add_none, add_none, Nat.add_assoc] at hcell
      exact hcell
    · obtain ⟨x, h3, h4, h5⟩ := h2 i c hc
      rw [List.getElem?_map, h5] at hdi
      simp at hdi
      exact ⟨n, x.2, by rw [h4, ← hdi]⟩
end
/-- one for each number below n -/
theorem list_of {α : Type} {Q : Nat → α → Prop} (n : Nat) (h : ∀ i, i < n → ∃ x, Q i x) : ∃ l : List α, l.length = n ∧ ∀ (i : Nat) (x : α), l[i]? = some x → Q i x := by
  induction n with
  | zero => exact ⟨[], rfl, by simp⟩
  | succ n ih =>
    obtain ⟨l, h1, h2⟩ := ih fun i hi => h i (by omega)
    obtain ⟨x, hx⟩ := h n (by omega)
    refine ⟨l ++ [x], by simp [h1], fun i y hy => ?_⟩
    by_cases hi : i < n
    · rw [List.getElem?_append_left (by omega)] at hy
      exact h2 i y hy
    · rw [List.getElem?_append_right (by omega)] at hy
      have hlt := (List.getElem?_eq_some_iff.1 hy).1
      simp at hlt
      have : i = n := by omega
      subst this
      simp [h1] at hy
      subst hy
      exact hx
section
variable {H : Type} {enc : TypeId × Value → H} {P : Program} {w : World} {base : Nat} {spare : Nat → Bool} {held : Bool}
/-- bytes -/
theorem TC.bytes {t e : Nat} {cs : List Value} {d : DataW H} (ht : P.underlying t = some (.slice e)) (he : P.underlying e = some (.int .u8)) (hm : P.cellsOf e = 1) (h : TC enc P w base spare held t cs d) :
    ∃ A c ys, cs = [.slice A (List.length ys) c] ∧ Rd w [] A (byts ys) ∧ (d = .nil ∧ ys = [] ∨ ∃ ds sp, d = .slice ds sp ∧ ds.length = ys.length) := by
  obtain ⟨A, len, cap, css, ds, h1, h2, h3, h4, h5, h6, h7⟩ := h.slice ht hm (by omega)
  obtain ⟨ys, hy1, hy2⟩ := list_of (Q := fun i (y : BitVec 8) => css[i]? = some [.int .u8 y.toNat]) len (fun i hi => by
    have hc := List.getElem?_eq_getElem (show i < css.length by omega)
    have hd := List.getElem?_eq_getElem (show i < ds.length by omega)
    obtain ⟨n, hn, hw⟩ := (h7 i _ _ hc hd).int he
    have := wf_u8 hw
    refine ⟨BitVec.ofNat 8 n.toNat, ?_⟩
    rw [hc, hn]
    simp
    omega)
  refine ⟨A, cap, ys, by rw [h1, hy1], fun j v hv => ?_, ?_⟩
  · have hj : j < ys.length := by have := (List.getElem?_eq_some_iff.1 hv).1; simpa [byts_length] using this
    rw [byts_get hj] at hv
    have h8 := hy2 j _ (List.getElem?_eq_getElem hj)
    obtain ⟨b, o, e1, e2⟩ := h5 j _ h8 0 v (by simpa using hv)
    exact ⟨b, o, e1, by simp, by simpa using e2⟩
  · rcases h6 with ⟨e1, e2⟩ | ⟨sp, e1⟩
    · exact .inl ⟨e1, List.eq_nil_of_length_eq_zero (by omega)⟩
    · exact .inr ⟨ds, sp, e1, by omega⟩
end
end V
end Go

/- VT: lists of plain records that come in; what their lengths are held to. -/
namespace Go
namespace V
open Go.RowKit Go.ChangeShapes Go.WideShapes Go.ChangeAt
set_option linter.unusedVariables false

theorem flatten_get {m : Nat} : ∀ (rs : List (List Value)), (∀ r ∈ rs, r.length = m) → ∀ (k : Nat) (v : Value), rs.flatten[k]? = some v → ∃ i j r, rs[i]? = some r ∧ r[j]? = some v ∧ k = i * m + j
  | [], _, k, v, h => by simp at h
  | r :: rs, hm, k, v, h => by
    rw [List.flatten_cons] at h
    by_cases hk : k < r.length
    · rw [List.getElem?_append_left hk] at h
      exact ⟨0, k, r, rfl, h, by simp⟩
    · rw [List.getElem?_append_right (by omega)] at h
      obtain ⟨i, j, r', h1, h2, h3⟩ := flatten_get rs (fun r hr => hm r (List.mem_cons_of_mem _ hr)) _ v h
      have := hm r List.mem_cons_self
      exact ⟨i + 1, j, r', by simpa using h1, h2, by rw [Nat.succ_mul]; omega⟩
theorem map_of {α β : Type} {f : α → β} {Q : α → Prop} : ∀ (rs : List β), (∀ r ∈ rs, ∃ x, r = f x ∧ Q x) → ∃ l : List α, rs = l.map f ∧ ∀ x ∈ l, Q x
  | [], _ => ⟨[], rfl, by simp⟩
  | r :: rs, h => by
    obtain ⟨x, h1, h2⟩ := h r List.mem_cons_self
    obtain ⟨l, h3, h4⟩ := map_of rs fun r hr => h r (List.mem_cons_of_mem _ hr)
    exact ⟨x :: l, by simp [h1, h3], fun y hy => by rcases List.mem_cons.1 hy with rfl | hy; exact h2; exact h4 y hy⟩
theorem okw_length : ∀ {ls : List Lf} {cs : List Value}, okw ls cs → cs.length = ls.length
  | [], [], _ => rfl
  | l :: ls, c :: cs, h => by have := okw_length h.2; simp [this]
  | [], _ :: _, h => h.elim
  | _ :: _, [], h => h.elim
section
variable {H : Type} {enc : TypeId × Value → H} {P : Program} {w : World} {base : Nat} {spare : Nat → Bool} {held : Bool}
/-- a slice of plain records -/
theorem TC.recs {t e : Nat} {ls : List Lf} {cs : List Value} {d : DataW H} (ht : P.underlying t = some (.slice e)) (hl : leaves P 8 e = some ls) (hs : P.cellsOf e = ls.length) (h0 : 0 < ls.length) (h : TC enc P w base spare held t cs d) :
    ∃ A cap, ∃ rs : List (List Value), cs = [.slice A rs.length cap] ∧ (∀ r ∈ rs, okw ls r) ∧ Rd w [] A rs.flatten ∧ (d = .nil ∧ rs = [] ∨ ∃ ds sp, d = .slice ds sp ∧ ds.length = rs.length) := by
  obtain ⟨A, len, cap, css, ds, h1, h2, h3, h4, h5, h6, h7⟩ := h.slice ht hs h0
  refine ⟨A, cap, css, by rw [h1, h2], fun r hr => ?_, fun k v hv => ?_, ?_⟩
  · obtain ⟨i, hi, rfl⟩ := List.mem_iff_getElem.1 hr
    exact (h7 i _ _ (List.getElem?_eq_getElem hi) (List.getElem?_eq_getElem (by omega))).plain hl hs
  · obtain ⟨i, j, r, e1, e2, rfl⟩ := flatten_get css h4 k v hv
    obtain ⟨b, o, e3, e4⟩ := h5 i r e1 j v e2
    exact ⟨b, o, e3, by simp, e4⟩
  · rcases h6 with ⟨e1, e2⟩ | ⟨sp, e1⟩
    · exact .inl ⟨e1, List.eq_nil_of_length_eq_zero (by omega)⟩
    · exact .inr ⟨ds, sp, e1, by omega⟩
/-- the weights of a struct's parts -/
theorem sized_agg {ts : List TypeId} {ds : List (DataW H)} (h : (DataW.weightsEach P ts ds).all (· ≤ reachBytes) = true) {j : Nat} {t : TypeId} {fs : Array Field} {parts : List (DataW H)} (ht : ts[j]? = some t) (hd : ds[j]? = some (.agg parts)) (hu : P.underlying t = some (.struct fs)) :
    (DataW.weightsEach P (fs.toList.map (·.type)) parts).all (· ≤ reachBytes) = true := by
  rw [List.all_eq_true]
  intro x hx
  exact List.all_eq_true.1 h _ (DataW.weights_mem_each ht hd x (by simp only [DataW.weights, hu]; exact hx))
theorem sized_len {ts : List TypeId} {ds : List (DataW H)} (h : (DataW.weightsEach P ts ds).all (· ≤ reachBytes) = true) {j n : Nat} {t e : TypeId} {d : DataW H} (ht : ts[j]? = some t) (hd : ds[j]? = some d) (hu : P.underlying t = some (.slice e))
    (hk : d = .nil ∧ n = 0 ∨ ∃ es sp, d = .slice es sp ∧ es.length = n) : n * P.bytesOf e ≤ reachBytes := by
  rcases hk with ⟨_, rfl⟩ | ⟨es, sp, rfl, rfl⟩
  · simp
  · have := sized_slice h ht hd hu
    have h2 : es.length * P.bytesOf e ≤ (es.length + sp.length) * P.bytesOf e := Nat.mul_le_mul_right _ (by omega)
    omega
end
end V
end Go

/- VB: slices that come in: they have room for what they hold. -/
namespace Go
namespace V
open Go.RowKit Go.ChangeShapes Go.WideShapes
set_option linter.unusedVariables false
set_option linter.unusedSimpArgs false
section
variable {P : Program} {H : Type} {enc : TypeId × Value → H} {w : World} {base : Nat} {spare : Nat → Bool} {held : Bool}
theorem TC.cap {t e len cap : Nat} {A : Option Addr} {d : DataW H} (ht : P.underlying t = some (.slice e)) (h : TC enc P w base spare held t [.slice A len cap] d) : len ≤ cap := by
  obtain ⟨fuel, p, hf⟩ := h
  rcases DataW.trod_slice ht hf with ⟨e1, hx⟩ | ⟨a, len', cap', elems, rest, n, _, e1, hx, hb, hl, hc, hn, he, _⟩
  · simp at e1; omega
  · simp at e1
    obtain ⟨rfl, rfl, rfl⟩ := e1
    omega
/-- a slice of plain records, with its room -/
theorem TC.recsK {t e : Nat} {ls : List Lf} {cs : List Value} {d : DataW H} (ht : P.underlying t = some (.slice e)) (hl : leaves P 8 e = some ls) (hs : P.cellsOf e = ls.length) (h0 : 0 < ls.length) (h : TC enc P w base spare held t cs d) :
    ∃ A cap, ∃ rs : List (List Value), cs = [.slice A rs.length cap] ∧ (∀ r ∈ rs, okw ls r) ∧ Rd w [] A rs.flatten ∧ rs.length ≤ cap ∧ (d = .nil ∧ rs = [] ∨ ∃ ds sp, d = .slice ds sp ∧ ds.length = rs.length) := by
  obtain ⟨A, cap, rs, rfl, h2, h3, h4⟩ := h.recs ht hl hs h0
  exact ⟨A, cap, rs, rfl, h2, h3, TC.cap ht h, h4⟩
end
theorem okw_i {k : IntKind} {ls : List Lf} {cs : List Value} (h : okw (.i k :: ls) cs) : ∃ a cs', cs = .int k a :: cs' ∧ (Lit.int k a).wf = true ∧ okw ls cs' := by
  match cs, h with
  | .int _ a :: cs', ⟨⟨h1, w1⟩, h2⟩ => subst h1; exact ⟨a, cs', rfl, w1, h2⟩
theorem okw_b {ls : List Lf} {cs : List Value} (h : okw (.b :: ls) cs) : ∃ a cs', cs = .bool a :: cs' ∧ okw ls cs' := by
  match cs, h with
  | .bool a :: cs', ⟨h1, h2⟩ => exact ⟨a, cs', rfl, h2⟩
theorem okw_nil {cs : List Value} (h : okw [] cs) : cs = [] := by
  match cs, h with
  | [], _ => rfl
end V
end Go

/- How many values arguments hold; slices of records as they come in. -/
namespace Go.Proofs.Ytfajjkolhajldaa
open Go.V Go.ChangeShapes Go.WideShapes Go.ChangeAt
set_option linter.unusedVariables false
set_option linter.unusedSimpArgs false

theorem bulk_pos {H : Type} (d : DataW H) : 1 ≤ Rows.uptoBulk d := by
  cases d with
  | lit l => cases l <;> simp [Rows.uptoBulk]
  | _ => simp [Rows.uptoBulk]
theorem bulk_len {H : Type} : ∀ (ds : List (DataW H)), ds.length ≤ Rows.uptoBulkAll ds
  | [] => by simp
  | d :: ds => by
    have h1 := bulk_pos d
    have h2 := bulk_len ds
    simp only [Rows.uptoBulkAll, List.length_cons]
    omega
theorem bulk_get {H : Type} : ∀ {ds : List (DataW H)} {i : Nat} {d : DataW H}, ds[i]? = some d → Rows.uptoBulk d ≤ Rows.uptoBulkAll ds
  | d' :: ds, 0, d, h => by simp at h; subst h; simp [Rows.uptoBulkAll]
  | d' :: ds, i + 1, d, h => by
    have := bulk_get (ds := ds) (i := i) (by simpa using h)
    simp only [Rows.uptoBulkAll]
    omega
  | [], i, d, h => by simp at h
theorem bulk_sum {H α : Type} (f : α → Nat) : ∀ {ds : List (DataW H)} {l : List α}, l.length = ds.length → (∀ (i : Nat) (x : α) (d : DataW H), l[i]? = some x → ds[i]? = some d → f x ≤ Rows.uptoBulk d) → (l.map f).sum ≤ Rows.uptoBulkAll ds
  | [], [], _, _ => by simp
  | d :: ds, x :: l, h, k => by
    have h1 := k 0 x d rfl rfl
    have h2 := bulk_sum f (ds := ds) (l := l) (by simpa using h) (fun i x d hx hd => k (i + 1) x d (by simpa using hx) (by simpa using hd))
    simp only [List.map_cons, List.sum_cons, Rows.uptoBulkAll]
    omega
  | [], _ :: _, h, _ => by simp at h
  | _ :: _, [], h, _ => by simp at h
section
variable {P : Program} {H : Type} {enc : TypeId × Value → H} {w : World} {base : Nat} {spare : Nat → Bool} {held : Bool}
/-- plain records -/
theorem TC.list {α : Type} (f : α → List Value) (Q : α → Prop) {t e : Nat} {ls : List Lf} {cs : List Value} {d : DataW H} (ht : P.underlying t = some (.slice e)) (hl : leaves P 8 e = some ls) (hs : P.cellsOf e = ls.length) (h0 : 0 < ls.length)
    (hf : ∀ r, okw ls r → ∃ x, r = f x ∧ Q x) (h : TC enc P w base spare held t cs d) :
    ∃ A cap, ∃ l : List α, cs = [.slice A l.length cap] ∧ (∀ x ∈ l, Q x) ∧ Rd w [] A (l.flatMap f) ∧ l.length ≤ cap ∧ l.length ≤ Rows.uptoBulk d := by
  obtain ⟨A, cap, rs, rfl, h2, h3, h5, h4⟩ := TC.recsK ht hl hs h0 h
  obtain ⟨l, rfl, hl⟩ := map_of (f := f) (Q := Q) rs fun r hr => hf r (h2 r hr)
  refine ⟨A, cap, l, by rw [List.length_map], hl, by rw [List.flatMap_def]; exact h3, by simpa using h5, ?_⟩
  rcases h4 with ⟨e1, e2⟩ | ⟨ds, sp, rfl, e2⟩
  · have : l = [] := by simpa using e2
    subst this; simp
  · have := bulk_len ds
    simp only [Rows.uptoBulk]
    rw [List.length_map] at e2
    omega
/-- records of whatever -/
theorem TC.listN {α : Type} (f : α → List Value) (Q : α → DataW H → Prop) {t e m : Nat} {cs : List Value} {d : DataW H} (ht : P.underlying t = some (.slice e)) (hm : P.cellsOf e = m) (h0 : 0 < m)
    (hf : ∀ c di, TC enc P w base spare held e c di → ∃ x, c = f x ∧ Q x di) (h : TC enc P w base spare held t cs d) :
    ∃ A cap, ∃ l : List α, cs = [.slice A l.length cap] ∧ Rd w [] A (l.flatMap f) ∧ l.length ≤ cap ∧ l.length ≤ Rows.uptoBulk d ∧ (∀ x ∈ l, ∃ di, Q x di ∧ Rows.uptoBulk di ≤ Rows.uptoBulk d) ∧
      ∀ g : α → Nat, (∀ x di, Q x di → g x ≤ Rows.uptoBulk di) → (l.map g).sum ≤ Rows.uptoBulk d := by
  obtain ⟨A, len, cap, css, ds, rfl, h2, h3, h4, h5, h6, h7⟩ := TC.slice ht hm h0 h
  have hcap := TC.cap ht h
  obtain ⟨l, hl1, hl2⟩ := list_of (Q := fun i (x : α) => css[i]? = some (f x) ∧ ∃ di, ds[i]? = some di ∧ Q x di) len (fun i hi => by
    have hc := List.getElem?_eq_getElem (show i < css.length by omega)
    have hd := List.getElem?_eq_getElem (show i < ds.length by omega)
    obtain ⟨x, e1, e2⟩ := hf _ _ (h7 i _ _ hc hd)
    exact ⟨x, by rw [hc, e1], _, hd, e2⟩)
  have hcss : css = l.map f := by
    apply List.ext_getElem?
    intro i
    by_cases hi : i < len
    · have hx := List.getElem?_eq_getElem (show i < l.length by omega)
      rw [(hl2 i _ hx).1, List.getElem?_map, hx]; rfl
    · rw [List.getElem?_eq_none (by omega), List.getElem?_eq_none (by simp; omega)]
  have hb : ∀ di ∈ ds, Rows.uptoBulk di ≤ Rows.uptoBulk d := by
    intro di hdi
    rcases h6 with ⟨_, e2⟩ | ⟨sp, rfl⟩
    · have : ds = [] := List.eq_nil_of_length_eq_zero (by omega)
      subst this; cases hdi
    · obtain ⟨i, hi, rfl⟩ := List.mem_iff_getElem.1 hdi
      have := bulk_get (List.getElem?_eq_getElem hi)
      simp only [Rows.uptoBulk]
      omega
  refine ⟨A, cap, l, by rw [hl1], fun k v hv => ?_, by omega, ?_, fun x hx => ?_, fun g hg => ?_⟩
  · rw [List.flatMap_def, ← hcss] at hv
    obtain ⟨i, j, r, e1, e2, rfl⟩ := flatten_get css h4 k v hv
    obtain ⟨b, o, e3, e4⟩ := h5 i r e1 j v e2
    exact ⟨b, o, e3, by simp, e4⟩
  · rcases h6 with ⟨_, e2⟩ | ⟨sp, rfl⟩
    · have := bulk_pos d; omega
    · have := bulk_len ds
      simp only [Rows.uptoBulk]
      omega
  · obtain ⟨i, hi, rfl⟩ := List.mem_iff_getElem.1 hx
    obtain ⟨-, di, hdi, hq⟩ := hl2 i _ (List.getElem?_eq_getElem hi)
    exact ⟨di, hq, hb _ (List.mem_of_getElem? hdi)⟩
  · rcases h6 with ⟨_, e2⟩ | ⟨sp, rfl⟩
    · have : l = [] := List.eq_nil_of_length_eq_zero (by omega)
      subst this; simp
    · have := bulk_sum g (ds := ds) (l := l) (by omega) (fun i x di hx hdi => by
        obtain ⟨-, di', hdi', hq⟩ := hl2 i x hx
        rw [hdi] at hdi'; cases hdi'
        exact hg x di hq)
      simp only [Rows.uptoBulk]
      omega
end
end Go.Proofs.Ytfajjkolhajldaa

/- Commands and books as they come in. -/
namespace Go.Proofs.Ytfajjkolhajldaa
open Go.V Go.ChangeShapes Go.WideShapes Go.ChangeAt
set_option linter.unusedVariables false
set_option linter.unusedSimpArgs false

def I64 (x : Int) : Prop := -9223372036854775808 ≤ x ∧ x ≤ 9223372036854775807
def U32 (x : Int) : Prop := 0 ≤ x ∧ x ≤ 4294967295
theorem wf_i64 {n : Int} (h : (Lit.int .i64 n).wf = true) : I64 n := by
  simp [Lit.wf, IntKind.min, IntKind.max, IntKind.bits, IntKind.signed] at h; unfold I64; omega
theorem wf_u64 {n : Int} (h : (Lit.int .u64 n).wf = true) : U n := by
  simp [Lit.wf, IntKind.min, IntKind.max, IntKind.bits, IntKind.signed] at h; unfold U; omega
theorem wf_u32 {n : Int} (h : (Lit.int .u32 n).wf = true) : U32 n := by
  simp [Lit.wf, IntKind.min, IntKind.max, IntKind.bits, IntKind.signed] at h; unfold U32; omega
/-- an order's fields are in their kinds -/
def Ord.ok (o : Ord) : Prop := U o.id ∧ U32 o.mb ∧ I64 o.ty ∧ I64 o.pr ∧ U o.v ∧ U o.hd ∧ U o.pk
theorem Ord.ok.wf {o : Ord} (h : o.ok) : o.wf := ⟨h.1, h.2.2.2.2.1, h.2.2.2.2.2.1, h.2.2.2.2.2.2⟩
theorem okw_ord {cs : List Value} (h : okw OL cs) : ∃ o : Ord, cs = o.cells ∧ o.ok := by
  match cs, h with
  | [.int _ a, .int _ b, .int _ c, .int _ d, .int _ e, .int _ f, .int _ g], ⟨⟨h1, w1⟩, ⟨h2, w2⟩, ⟨h3, w3⟩, ⟨h4, w4⟩, ⟨h5, w5⟩, ⟨h6, w6⟩, ⟨h7, w7⟩, _⟩ =>
    subst h1; subst h2; subst h3; subst h4; subst h5; subst h6; subst h7
    exact ⟨⟨a, b, c, d, e, f, g⟩, rfl, wf_u64 w1, wf_u32 w2, wf_i64 w3, wf_i64 w4, wf_u64 w5, wf_u64 w6, wf_u64 w7⟩
abbrev CL : List Lf := [.i .i64, .i .u64, .i .u64, .i .u32, .i .i64, .i .i64, .i .i64, .i .u64, .i .u64]
def Cmd (k id tg mb sd ty pr q pk : Int) : Prop := I64 k ∧ U id ∧ U tg ∧ U32 mb ∧ I64 sd ∧ I64 ty ∧ I64 pr ∧ U q ∧ U pk
theorem okw_cmd {cs : List Value} (h : okw CL cs) : ∃ k id tg mb sd ty pr q pk, cs = ccells k id tg mb sd ty pr q pk ∧ Cmd k id tg mb sd ty pr q pk := by
  match cs, h with
  | [.int _ a, .int _ b, .int _ c, .int _ d, .int _ e, .int _ f, .int _ g, .int _ i, .int _ j], ⟨⟨h1, w1⟩, ⟨h2, w2⟩, ⟨h3, w3⟩, ⟨h4, w4⟩, ⟨h5, w5⟩, ⟨h6, w6⟩, ⟨h7, w7⟩, ⟨h8, w8⟩, ⟨h9, w9⟩, _⟩ =>
    subst h1; subst h2; subst h3; subst h4; subst h5; subst h6; subst h7; subst h8; subst h9
    exact ⟨a, b, c, d, e, f, g, i, j, rfl, wf_i64 w1, wf_u64 w2, wf_u64 w3, wf_u32 w4, wf_i64 w5, wf_i64 w6, wf_i64 w7, wf_u64 w8, wf_u64 w9⟩
/-- a side, as it comes in -/
def Len {H : Type} (d : DataW H) (n : Nat) : Prop := d = .nil ∧ n = 0 ∨ ∃ es sp, d = .slice es sp ∧ es.length = n
section
variable {H : Type} {enc : TypeId × Value → H} {w : World} {base : Nat} {spare : Nat → Bool} {held : Bool}
theorem TC.side {cs : List Value} {d : DataW H} (h : TC enc Try.prog w base spare held 113 cs d) :
    ∃ A c, ∃ l : List Ord, cs = [.slice A l.length c] ∧ Rd w [] A (rows l) ∧ (∀ o ∈ l, o.ok) ∧ Len d l.length := by
  obtain ⟨A, c, rs, h1, h2, h3, h4⟩ := h.recs (e := 125) (ls := OL) (by kernel_rfl) (by kernel_rfl) (by kernel_rfl) (by decide)
  obtain ⟨l, rfl, hl⟩ := map_of (f := Ord.cells) (Q := Ord.ok) rs fun r hr => okw_ord (h2 r hr)
  refine ⟨A, c, l, by rw [h1, List.length_map], by rw [rows, List.flatMap_def]; exact h3, hl, ?_⟩
  rcases h4 with ⟨e1, e2⟩ | ⟨ds, sp, e1, e2⟩
  · exact .inl ⟨e1, by simpa using e2⟩
  · exact .inr ⟨ds, sp, e1, by simpa using e2⟩
set_option maxRecDepth 20000 in
theorem read_book {cs : List Value} {d : DataW H} (h : TC enc Try.prog w base spare held 115 cs d) :
    ∃ cap meet A1 c1 A2 c2 high seq, ∃ bs ss : List Ord, cs = bcells cap meet (.slice A1 bs.length c1) (.slice A2 ss.length c2) high seq ∧ I64 cap ∧ I64 meet ∧ U high ∧ U seq ∧ Rd w [] A1 (rows bs) ∧ Rd w [] A2 (rows ss) ∧ (∀ o ∈ bs ++ ss, o.ok) ∧
      ∃ dc d1 d2 dh dq, d = .agg [dc, d1, d2, dh, dq] ∧ Len d1 bs.length ∧ Len d2 ss.length := by
  obtain ⟨ds, rfl, hn, hl, hf⟩ := h.struct Try.underlying115
  match ds, hn with
  | [dc, d1, d2, dh, dq], _ =>
  match cs, hl with
  | [x0, x1, x2, x3, x4, x5], _ =>
  have f0 := (hf 0 _ dc rfl rfl).plain (ls := [.i .i64, .i .i64]) (by kernel_rfl) (by kernel_rfl)
  obtain ⟨A1, c1, bs, e1, r1, o1, n1⟩ := TC.side (hf 1 _ d1 rfl rfl)
  obtain ⟨A2, c2, ss, e2, r2, o2, n2⟩ := TC.side (hf 2 _ d2 rfl rfl)
  obtain ⟨high, e3, w3⟩ := (hf 3 _ dh rfl rfl).int (k := .u64) (by kernel_rfl)
  obtain ⟨seq, e4, w4⟩ := (hf 4 _ dq rfl rfl).int (k := .u64) (by kernel_rfl)
  have z2 : Try.prog.cellsOf 64 = 2 := by kernel_rfl
  have z1 : Try.prog.cellsOf 113 = 1 := by kernel_rfl
  have zu : Try.prog.cellsOf 30 = 1 := by kernel_rfl
  have g0 : okw [.i .i64, .i .i64] [x0, x1] := by simpa [z2] using f0
  have g1 : x2 = .slice A1 bs.length c1 := by simpa [z1] using e1
  have g2 : x3 = .slice A2 ss.length c2 := by simpa [z1] using e2
  have g3 : x4 = .int .u64 high := by simpa [zu] using e3
  have g4 : x5 = .int .u64 seq := by simpa [zu] using e4
  match x0, x1, g0 with
  | .int _ cap, .int _ meet, ⟨⟨p1, w1⟩, ⟨p2, w2⟩, _⟩ =>
    subst p1; subst p2; subst g1; subst g2; subst g3; subst g4
    exact ⟨cap, meet, A1, c1, A2, c2, high, seq, bs, ss, rfl, wf_i64 w1, wf_i64 w2, wf_u64 w3, wf_u64 w4, r1, r2, fun o ho => by rcases List.mem_append.1 ho with ho | ho; exact o1 o ho; exact o2 o ho, dc, d1, d2, dh, dq, rfl, n1, n2⟩
end
end Go.Proofs.Ytfajjkolhajldaa

/- Lists of commands, as they come in. -/
namespace Go.Proofs.Ytfajjkolhajldaa
open Go.V Go.ChangeShapes Go.WideShapes Go.ChangeAt
set_option linter.unusedVariables false

def Cm.ok (c : Cm) : Prop := Cmd c.k c.id c.tg c.mb c.sd c.ty c.pr c.q c.pk
theorem Cm.ok.wf {c : Cm} (h : c.ok) : c.wf := ⟨h.2.1, h.2.2.2.2.2.2.2.1, h.2.2.2.2.2.2.2.2⟩
theorem okw_cm {cs : List Value} (h : okw CL cs) : ∃ c : Cm, cs = c.cells ∧ c.ok := by
  obtain ⟨k, id, tg, mb, sd, ty, pr, q, pk, rfl, hc⟩ := okw_cmd h
  exact ⟨⟨k, id, tg, mb, sd, ty, pr, q, pk⟩, rfl, hc⟩
theorem okw_cfg {cs : List Value} (h : okw [.i .i64, .i .i64] cs) : ∃ a b, cs = [.int .i64 a, .int .i64 b] ∧ I64 a ∧ I64 b := by
  match cs, h with
  | [.int _ a, .int _ b], ⟨⟨h1, w1⟩, ⟨h2, w2⟩, _⟩ => subst h1; subst h2; exact ⟨a, b, rfl, wf_i64 w1, wf_i64 w2⟩
section
variable {H : Type} {enc : TypeId × Value → H} {w : World} {base : Nat} {spare : Nat → Bool} {held : Bool}
theorem TC.cmds {cs : List Value} {d : DataW H} (h : TC enc Try.prog w base spare held 24 cs d) :
    ∃ A c, ∃ l : List Cm, cs = [.slice A l.length c] ∧ Rd w [] A (crows l) ∧ (∀ o ∈ l, o.ok) ∧ Len d l.length := by
  obtain ⟨A, c, rs, h1, h2, h3, h4⟩ := h.recs (e := 37) (ls := CL) (by kernel_rfl) (by kernel_rfl) (by kernel_rfl) (by decide)
  obtain ⟨l, rfl, hl⟩ := map_of (f := Cm.cells) (Q := Cm.ok) rs fun r hr => okw_cm (h2 r hr)
  refine ⟨A, c, l, by rw [h1, List.length_map], by rw [crows, List.flatMap_def]; exact h3, hl, ?_⟩
  rcases h4 with ⟨e1, e2⟩ | ⟨ds, sp, e1, e2⟩
  · exact .inl ⟨e1, by simpa using e2⟩
  · exact .inr ⟨ds, sp, e1, by simpa using e2⟩
end
end Go.Proofs.Ytfajjkolhajldaa

/- Limits and events as they come in. -/
namespace Go.Proofs.Ytfajjkolhajldaa
open Go.V Go.ChangeShapes Go.WideShapes Go.ChangeAt
set_option linter.unusedVariables false
set_option linter.unusedSimpArgs false

theorem wfU {n : Int} (h : (Lit.int .u64 n).wf = true) : U64r n := by
  simp [Lit.wf, IntKind.min, IntKind.max, IntKind.bits, IntKind.signed] at h; unfold U64r; omega
theorem wfM {n : Int} (h : (Lit.int .u32 n).wf = true) : 0 ≤ n ∧ n < 4294967296 := by
  simp [Lit.wf, IntKind.min, IntKind.max, IntKind.bits, IntKind.signed] at h; omega
abbrev RVL : List Lf := [.i .u64, .i .i64, .i .u64, .i .u64, .i .u64, .i .u32, .i .i64, .i .i64, .i .i64, .i .u64, .i .u64, .i .i64, .i .i64]
theorem okw_rev {cs : List Value} (h : okw RVL cs) : ∃ v : Ev, cs = v.cells ∧ U64r v.q := by
  obtain ⟨a, cs, rfl, w1, h⟩ := okw_i h
  obtain ⟨b, cs, rfl, w2, h⟩ := okw_i h
  obtain ⟨c, cs, rfl, w3, h⟩ := okw_i h
  obtain ⟨d, cs, rfl, w4, h⟩ := okw_i h
  obtain ⟨e, cs, rfl, w5, h⟩ := okw_i h
  obtain ⟨f, cs, rfl, w6, h⟩ := okw_i h
  obtain ⟨g, cs, rfl, w7, h⟩ := okw_i h
  obtain ⟨i, cs, rfl, w8, h⟩ := okw_i h
  obtain ⟨j, cs, rfl, w9, h⟩ := okw_i h
  obtain ⟨k, cs, rfl, w10, h⟩ := okw_i h
  obtain ⟨l, cs, rfl, w11, h⟩ := okw_i h
  obtain ⟨m, cs, rfl, w12, h⟩ := okw_i h
  obtain ⟨n, cs, rfl, w13, h⟩ := okw_i h
  have := okw_nil h
  subst this
  exact ⟨⟨a, b, c, d, e, f, g, i, j, k, l, m, n⟩, rfl, wfU w10⟩
abbrev LmL : List Lf := [.i .u32, .i .u64, .i .u64, .i .i64, .i .u64, .i .u64]
theorem okw_lm {cs : List Value} (h : okw LmL cs) : ∃ v : LmT, cs = v.cells ∧ v.l.R ∧ 0 ≤ v.m ∧ v.m < 4294967296 := by
  obtain ⟨a, cs, rfl, w1, h⟩ := okw_i h
  obtain ⟨b, cs, rfl, w2, h⟩ := okw_i h
  obtain ⟨c, cs, rfl, w3, h⟩ := okw_i h
  obtain ⟨d, cs, rfl, w4, h⟩ := okw_i h
  obtain ⟨e, cs, rfl, w5, h⟩ := okw_i h
  obtain ⟨f, cs, rfl, w6, h⟩ := okw_i h
  have := okw_nil h
  subst this
  exact ⟨⟨a, ⟨b, c, d, e, f⟩⟩, rfl, ⟨wfU w3, wfU w5, wfU w6⟩, wfM w1⟩
section
variable {H : Type} {enc : TypeId × Value → H} {w : World} {base : Nat} {spare : Nat → Bool} {held : Bool}
set_option maxRecDepth 20000 in
theorem read_revs {cs : List Value} {d : DataW H} (h : TC enc Try.prog w base spare held 23 cs d) :
    ∃ A cap, ∃ l : List Ev, cs = [.slice A l.length cap] ∧ Rd w [] A (erows l) ∧ (∀ e ∈ l, U64r e.q) ∧ l.length ≤ cap ∧ l.length ≤ Rows.uptoBulk d := by
  have hz2 : Try.prog.cellsOf 23 = 1 := by kernel_rfl
  obtain ⟨A, cap, l, g, hq, r, k, n⟩ := TC.list Ev.cells (fun e => U64r e.q) (ls := RVL) (e := 40) (by kernel_rfl) (by kernel_rfl) (by kernel_rfl) (by decide) (fun r hr => okw_rev hr) h
  exact ⟨A, cap, l, by simpa [hz2] using g, r, hq, k, n⟩
set_option maxRecDepth 20000 in
theorem read_lms {cs : List Value} {d : DataW H} (h : TC enc Try.prog w base spare held 22 cs d) :
    ∃ A cap, ∃ l : List LmT, cs = [.slice A l.length cap] ∧ Rd w [] A (l.flatMap LmT.cells) ∧ (∀ x ∈ l, x.l.R ∧ 0 ≤ x.m ∧ x.m < 4294967296) ∧ l.length ≤ Rows.uptoBulk d := by
  have hz2 : Try.prog.cellsOf 22 = 1 := by kernel_rfl
  obtain ⟨A, cap, l, g, hq, r, k, n⟩ := TC.list LmT.cells (fun x => x.l.R ∧ 0 ≤ x.m ∧ x.m < 4294967296) (ls := LmL) (e := 34) (by kernel_rfl) (by kernel_rfl) (by kernel_rfl) (by decide) (fun r hr => okw_lm hr) h
  exact ⟨A, cap, l, by simpa [hz2] using g, r, hq, n⟩
set_option maxRecDepth 20000 in
theorem read_cms {cs : List Value} {d : DataW H} (h : TC enc Try.prog w base spare held 24 cs d) :
    ∃ A cap, ∃ l : List Cm, cs = [.slice A l.length cap] ∧ Rd w [] A (l.flatMap Cm.cells) ∧ (∀ c ∈ l, c.ok) ∧ l.length ≤ Rows.uptoBulk d := by
  have hz2 : Try.prog.cellsOf 24 = 1 := by kernel_rfl
  obtain ⟨A, cap, l, g, hq, r, k, n⟩ := TC.list Cm.cells (fun c => c.ok) (ls := CL) (e := 37) (by kernel_rfl) (by kernel_rfl) (by kernel_rfl) (by decide) (fun r hr => okw_cm hr) h
  exact ⟨A, cap, l, by simpa [hz2] using g, r, hq, n⟩
end
end Go.Proofs.Ytfajjkolhajldaa

/- A run as it comes in. -/
namespace Go.Proofs.Ytfajjkolhajldaa
open Go.V Go.ChangeShapes Go.WideShapes Go.ChangeAt
set_option linter.unusedVariables false
set_option linter.unusedSimpArgs false
theorem flat_ints : ∀ l : List Int, l.flatMap (fun n : Int => [Value.int .i64 n]) = ints .i64 l
  | [] => rfl
  | a :: l => by rw [List.flatMap_cons, flat_ints l]; rfl
section
variable {H : Type} {enc : TypeId × Value → H} {w : World} {base : Nat} {spare : Nat → Bool} {held : Bool}
set_option maxRecDepth 20000 in
theorem read_kills {cs : List Value} {d : DataW H} (h : TC enc Try.prog w base spare held 73 cs d) :
    ∃ A cap, ∃ l : List Int, cs = [.slice A l.length cap] ∧ Rd w [] A (ints .i64 l) ∧ l.length ≤ Rows.uptoBulk d := by
  have hz2 : Try.prog.cellsOf 73 = 1 := by kernel_rfl
  obtain ⟨A, cap, l, g, hq, r, k, n⟩ := TC.list (fun n : Int => [Value.int .i64 n]) (fun _ => True) (ls := [.i .i64]) (e := 3) (by kernel_rfl) (by kernel_rfl) (by kernel_rfl) (by decide) (fun r hr => by
    obtain ⟨a, cs, rfl, _, h⟩ := okw_i hr
    have := okw_nil h
    subst this
    exact ⟨a, rfl, trivial⟩) h
  have e := flat_ints l
  rw [e] at r
  exact ⟨A, cap, l, by simpa [hz2] using g, r, n⟩
set_option maxRecDepth 20000 in
theorem read_run {cs : List Value} {d : DataW H} (h : TC enc Try.prog w base spare held 75 cs d) :
    ∃ cc cm A0 p0, ∃ L : List LmT, ∃ A cap, ∃ l : List Cm, ∃ A2 p2, ∃ ks : List Int, cs = [.int .i64 cc, .int .i64 cm, .slice A0 L.length p0, .slice A l.length cap, .slice A2 ks.length p2] ∧
      Rd w [] A0 (L.flatMap LmT.cells) ∧ (∀ x ∈ L, x.l.R ∧ 0 ≤ x.m ∧ x.m < 4294967296) ∧ Rd w [] A (l.flatMap Cm.cells) ∧ (∀ c ∈ l, c.ok) ∧ Rd w [] A2 (ints .i64 ks) ∧ L.length + l.length + ks.length ≤ Rows.uptoBulk d := by
  have z0 : Try.prog.cellsOf 64 = 2 := by kernel_rfl
  have z1 : Try.prog.cellsOf 22 = 1 := by kernel_rfl
  have z2 : Try.prog.cellsOf 24 = 1 := by kernel_rfl
  have z3 : Try.prog.cellsOf 73 = 1 := by kernel_rfl
  have z4 : Try.prog.cellsOf 75 = 5 := by kernel_rfl
  obtain ⟨ds, e1, e2, e3, he⟩ := h.struct Try.underlying75
  rw [z4] at e3
  match ds, e2 with
  | [f1, f2, f3, f4], _ =>
  match cs, e3 with
  | [x0, x1, x2, x3, x4], _ =>
  obtain ⟨cc, cm, g0, -, -⟩ := okw_cfg ((he 0 _ f1 rfl rfl).plain (ls := [.i .i64, .i .i64]) (by kernel_rfl) (by kernel_rfl))
  obtain ⟨A0, p0, L, g1, r1, q1, n1⟩ := read_lms (he 1 _ f2 rfl rfl)
  obtain ⟨A, cap, l, g2, r2, q2, n2⟩ := read_cms (he 2 _ f3 rfl rfl)
  obtain ⟨A2, p2, ks, g3, r3, n3⟩ := read_kills (he 3 _ f4 rfl rfl)
  have y0 : x0 = .int .i64 cc ∧ x1 = .int .i64 cm := by simpa [z0] using g0
  have y1 : x2 = .slice A0 L.length p0 := by simpa [z1] using g1
  have y2 : x3 = .slice A l.length cap := by simpa [z2] using g2
  have y3 : x4 = .slice A2 ks.length p2 := by simpa [z3] using g3
  obtain ⟨y0, y0'⟩ := y0
  subst y0; subst y0'; subst y1; subst y2; subst y3
  refine ⟨cc, cm, A0, p0, L, A, cap, l, A2, p2, ks, rfl, r1, q1, r2, q2, r3, ?_⟩
  rw [e1]
  simp only [Rows.uptoBulk, Rows.uptoBulkAll]
  omega
end
end Go.Proofs.Ytfajjkolhajldaa
