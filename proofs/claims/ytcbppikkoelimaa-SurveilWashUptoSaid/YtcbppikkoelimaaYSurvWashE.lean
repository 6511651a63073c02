/- Texts that the row RSurvWash stands on: SVWashP, QNumbers, QSound, SVWashL, VN, VT, VB, KBulk, SVRd, QRead, QReadC, SVRdCm. -/
import Derived.Test.YtcbppikkoelimaaYSurvWashD
import Derived.Test.YtcbppikkoelimaaYSurvWashB
import Derived.Test.YtcbppikkoelimaaYSurvWashC
import Derived.Test.YtcbppikkoelimaaYSurvWashA
import Derived.SizedLaws
import Derived.Test.YtcbppikkoelimaaRows
/- SurveilWash, plain: the book's side and the watch's. -/
namespace Go.Proofs.Ytcbppikkoelimaa
open Go.V
set_option linter.unusedVariables false
set_option linter.unusedSimpArgs false

/-! ### what a book tells: whose the orders are that meet -/
abbrev Same (f o : Ord) : Prop := f.id = o.id ∧ f.mb = o.mb
def WEv (meet : Int) (t : Tk) (L : List Ord) (e : Ev) : Prop := e.kind ≠ 1 ∧ (e.kind = 3 → e.id = t.o.id ∧ ∃ f ∈ L, f.id = e.other ∧ (meet ≠ 0 → ¬ (f.mb = t.o.mb ∧ t.o.mb ≠ 0)))
theorem WEv.mono {meet : Int} {t : Tk} {L L' : List Ord} {e : Ev} (h : WEv meet t L e) (hs : ∀ o ∈ L, ∃ f ∈ L', Same f o) : WEv meet t L' e := by
  refine ⟨h.1, fun hk => ?_⟩
  obtain ⟨h1, f, hf, h2, h3⟩ := h.2 hk
  obtain ⟨g, hg, e1, e2⟩ := hs f hf
  exact ⟨h1, g, hg, by rw [e1, h2], by rw [e2]; exact h3⟩
theorem WEv.other {meet : Int} {t : Tk} {L : List Ord} {e : Ev} (h1 : e.kind ≠ 1) (h3 : e.kind ≠ 3) : WEv meet t L e := ⟨h1, fun h => absurd h h3⟩
theorem step_wash {meet : Int} {t : Tk} {s s' : TS} (h : s.step meet t = some s') : (∀ o ∈ s'.L, ∃ f ∈ s.L, Same f o) ∧ ∃ l, s'.evs = s.evs ++ l ∧ ∀ e ∈ l, WEv meet t s.L e := by
  obtain ⟨L, left, seq, evs⟩ := s
  unfold TS.step at h
  simp only at h
  cases L with
  | nil => cases h
  | cons f rest =>
    simp only at h
    have hrest : ∀ o ∈ rest, ∃ g ∈ f :: rest, Same g o := fun o ho => ⟨o, List.mem_cons_of_mem _ ho, rfl, rfl⟩
    split at h
    · simp only [Option.some.injEq] at h
      subst h
      split
      · simp only [TS.meets]
        by_cases m1 : meet = 1
        · rw [if_pos m1, if_neg (show ¬ meet = 2 by omega)]
          exact ⟨fun o ho => ⟨o, ho, rfl, rfl⟩, _, rfl, fun e he => by simp at he; subst he; exact .other (by simp [evCancel, Ev.num]) (by simp [evCancel, Ev.num])⟩
        · rw [if_neg m1]
          by_cases m2 : meet = 2
          · rw [if_pos m2]
            exact ⟨hrest, _, rfl, fun e he => by simp at he; subst he; exact .other (by simp [evCancel, Ev.num]) (by simp [evCancel, Ev.num])⟩
          · rw [if_neg m2]
            exact ⟨hrest, _, List.append_assoc _ _ _, fun e he => by simp at he; rcases he with rfl | rfl <;> exact .other (by simp [evCancel, Ev.num]) (by simp [evCancel, Ev.num])⟩
      · rename_i hno
        have hT : ∀ (pr q sq : Int), WEv meet t (f :: rest) ((evTrade t.o.id f.id t.side pr q).num sq) := fun pr q sq => ⟨by simp [evTrade, Ev.num], fun _ => ⟨rfl, f, List.mem_cons_self, rfl, fun hm hh => hno ⟨hh.1, hh.2, hm⟩⟩⟩
        simp only [TS.hit]
        split
        · refine ⟨fun o ho => ?_, _, rfl, fun e he => ?_⟩
          · rcases List.mem_cons.1 ho with rfl | ho
            · exact ⟨f, List.mem_cons_self, rfl, rfl⟩
            · exact hrest o ho
          · simp at he; subst he; exact hT _ _ _
        · split
          · refine ⟨fun o ho => ?_, _, List.append_assoc _ _ _, fun e he => ?_⟩
            · have ho : o ∈ rst (3 - t.side) f.next rest := ho
              rcases rst_mem ho with rfl | ho
              · exact ⟨f, List.mem_cons_self, rfl, rfl⟩
              · exact hrest o ho
            · simp at he
              rcases he with rfl | rfl
              · exact hT _ _ _
              · exact .other (by simp [evRefresh, Ev.num]) (by simp [evRefresh, Ev.num])
          · exact ⟨hrest, _, rfl, fun e he => by simp at he; subst he; exact hT _ _ _⟩
    · cases h
theorem run_wash {meet : Int} {t : Tk} {s z : TS} (h : TRun meet t s z) : (∀ o ∈ z.L, ∃ f ∈ s.L, Same f o) ∧ ∃ l, z.evs = s.evs ++ l ∧ ∀ e ∈ l, WEv meet t s.L e := by
  induction h with
  | stop _ => exact ⟨fun o ho => ⟨o, ho, rfl, rfl⟩, [], by simp, by simp⟩
  | step hs _ ih =>
    obtain ⟨c1, l1, a1, a2⟩ := step_wash hs
    obtain ⟨c2, l2, b1, b2⟩ := ih
    refine ⟨fun o ho => ?_, l1 ++ l2, by rw [b1, a1, List.append_assoc], fun e he => ?_⟩
    · obtain ⟨f, hf, e1, e2⟩ := c2 o ho
      obtain ⟨g, hg, g1, g2⟩ := c1 f hf
      exact ⟨g, hg, g1.trans e1, g2.trans e2⟩
    · rcases List.mem_append.1 he with he | he
      · exact a2 e he
      · exact (b2 e he).mono c1
theorem comes_wash {B : Bk} {evs : List Ev} {t : Tk} (hOk : (B.ts evs t).Ok) : (∀ o ∈ (B.comes evs t).1.bs ++ (B.comes evs t).1.ss, (∃ f ∈ B.bs ++ B.ss, Same f o) ∨ (o.id = t.o.id ∧ o.mb = t.o.mb)) ∧
    ∃ l, (B.comes evs t).2 = evs ++ l ∧ ∀ e ∈ l, WEv B.meet t (B.bs ++ B.ss) e := by
  obtain ⟨a0, l, a1, a2⟩ := run_wash (tr_run (meet := B.meet) (t := t) hOk)
  have hside : ∀ o ∈ (B.ts evs t).L, ∃ f ∈ B.bs ++ B.ss, Same f o := fun o ho => ⟨o, B.side_sub _ o ho, rfl, rfl⟩
  unfold Bk.comes
  split
  · exact ⟨fun o ho => .inl ⟨o, ho, rfl, rfl⟩, _, rfl, fun e he => by simp at he; subst he; exact .other (by simp [evCancel, Ev.num]) (by simp [evCancel, Ev.num])⟩
  · simp only
    have hE : ∀ e ∈ l, WEv B.meet t (B.bs ++ B.ss) e := fun e he => (a2 e he).mono hside
    generalize tr B.meet t (B.ts evs t) = z at *
    have hT : ∀ o ∈ (B.traded t z).bs ++ (B.traded t z).ss, ∃ f ∈ B.bs ++ B.ss, Same f o := fun o ho => by
      have ho : o ∈ (B.put (3 - t.side) z.L).bs ++ (B.put (3 - t.side) z.L).ss := ho
      rcases Bk.put_mem ho with ho | ho
      · obtain ⟨f, hf, e1, e2⟩ := a0 o ho
        exact ⟨f, B.side_sub _ f hf, e1, e2⟩
      · exact ⟨o, ho, rfl, rfl⟩
    split
    · exact ⟨fun o ho => .inl (hT o ho), l, a1, hE⟩
    · split
      · refine ⟨fun o ho => .inl (hT o ho), l ++ [(evCancel t.o.id z.left 3).num (nx (B.traded t z).seq)], by rw [a1, List.append_assoc]; rfl, fun e he => ?_⟩
        rcases List.mem_append.1 he with he | he
        · exact hE e he
        · simp at he; subst he; exact .other (by simp [evCancel, Ev.num]) (by simp [evCancel, Ev.num])
      · refine ⟨fun o ho => ?_, l, a1, hE⟩
        rcases Bk.put_mem ho with ho | ho
        · rcases rst_mem ho with rfl | ho
          · exact .inr ⟨rfl, rfl⟩
          · exact .inl (hT o ((B.traded t z).side_sub _ o ho))
        · exact .inl (hT o ho)

/-! ### who meets himself -/
abbrev wsh (F : Int → Int) (e : Ev) : Prop := e.kind = 3 ∧ F e.id ≠ 0 ∧ F e.id = F e.other
def wants (F : Int → Int) (n : Int) : List Ev → List Int
  | [] => []
  | e :: l => (if wsh F e then [n + 1] else []) ++ wants (whoStep F e) (n + 1) l
theorem wants_app : ∀ (a b : List Ev) (F : Int → Int) (n : Int), wants F n (a ++ b) = wants F n a ++ wants (a.foldl whoStep F) (n + a.length) b
  | [], b, F, n => by simp [wants]
  | e :: a, b, F, n => by
    simp only [List.cons_append, wants, List.foldl_cons, List.length_cons, List.append_assoc]
    rw [wants_app a b, show n + 1 + (a.length : Int) = n + ((a.length + 1 : Nat) : Int) by omega]
theorem wants_none : ∀ (l : List Ev) (F : Int → Int) (n : Int), (∀ e ∈ l, e.kind ≠ 1 ∧ ¬ wsh F e) → wants F n l = [] ∧ l.foldl whoStep F = F
  | [], _, _, _ => ⟨rfl, rfl⟩
  | e :: l, F, n, h => by
    have he := h e List.mem_cons_self
    have e1 : whoStep F e = F := if_neg he.1
    obtain ⟨i1, i2⟩ := wants_none l F (n + 1) fun x hx => h x (List.mem_cons_of_mem _ hx)
    refine ⟨?_, ?_⟩
    · rw [wants, if_neg he.2, e1, i1]; rfl
    · rw [List.foldl_cons, e1, i2]
/-- where members do not trade with themselves, a book tells of none who did -/
theorem does_wash {B : Bk} {c : Cm} (h : B.Vl) (hw : c.wf) (F : Int → Int) (n : Int) (hm : B.meet ≠ 0) (hF : ∀ o ∈ B.bs ++ B.ss, F o.id = o.mb) :
    wants F n (B.does c).2 = [] ∧ ∀ o ∈ (B.does c).1.bs ++ (B.does c).1.ss, ((B.does c).2.foldl whoStep F) o.id = o.mb := by
  unfold Bk.does
  by_cases h0 : B.why c ≠ 0
  · rw [if_pos h0]
    obtain ⟨i1, i2⟩ := wants_none [(evReject (if c.k = 2 then 0 else c.id) (if c.k = 1 then 0 else c.tg) (B.why c)).num (nx B.seq)] F n (fun e he => by simp at he; subst he; simp [evReject, Ev.num])
    exact ⟨i1, fun o ho => by rw [i2]; exact hF o ho⟩
  rw [if_neg h0]
  have h0' : B.why c = 0 := Decidable.of_not_not h0
  have hgone : ∀ e ∈ B.gone c, e.kind ≠ 1 ∧ ¬ wsh F e := by
    intro e he
    unfold Bk.gone at he
    split at he
    · split at he
      · simp at he; subst he; simp [evCancel, Ev.num]
      · cases he
    · cases he
  obtain ⟨g1, g2⟩ := wants_none _ F n hgone
  by_cases h2 : c.k ≠ 2
  · rw [if_pos h2]
    obtain ⟨hV, hlt⟩ := cmg_V h hw h0' h2
    have hgc := goes_cap B c
    obtain ⟨z1, _⟩ := rfs_zero h0'
    have hgv := goes_vl (c := c) h z1
    generalize cmg c (B.tgt c) (B.at_ c).1 = tk at *
    have hvl := top_vl (num_vl (nx (B.goes c).seq) hgv) (show (B.goes c).high ≤ tk.o.id by rw [hgc.2.2]; omega)
    obtain ⟨w0, l, w1, w2⟩ := comes_wash (evs := B.gone c ++ [(evAck tk).num (nx (B.goes c).seq)]) (ts_ok' (evs := B.gone c ++ [(evAck tk).num (nx (B.goes c).seq)]) hvl hV)
    have hmt : (((B.goes c).num (nx (B.goes c).seq)).top tk.o.id).meet = B.meet := hgc.2.1
    rw [hmt] at w2
    have hfresh : ∀ o ∈ B.bs ++ B.ss, o.id ≠ tk.o.id := fun o ho => by
      have := (h.rests o ho).1
      unfold Ord.rests Rests at this
      omega
    have hak : whoStep F ((evAck tk).num (nx (B.goes c).seq)) = fun x => if x = tk.o.id then tk.o.mb else F x := if_pos rfl
    have hF' : ∀ o ∈ B.bs ++ B.ss, (if o.id = tk.o.id then tk.o.mb else F o.id) = o.mb := fun o ho => by rw [if_neg (hfresh o ho)]; exact hF o ho
    have hsub : ∀ o ∈ (((B.goes c).num (nx (B.goes c).seq)).top tk.o.id).bs ++ (((B.goes c).num (nx (B.goes c).seq)).top tk.o.id).ss, o ∈ B.bs ++ B.ss := fun o ho => Bk.goes_mem ho
    have hl : ∀ e ∈ l, e.kind ≠ 1 ∧ ¬ wsh (fun x => if x = tk.o.id then tk.o.mb else F x) e := by
      intro e he
      obtain ⟨k1, k3⟩ := w2 e he
      refine ⟨k1, fun hh => ?_⟩
      obtain ⟨q1, q2, q3⟩ := hh
      obtain ⟨r1, f, hf, r2, r3⟩ := k3 q1
      have hfb := hF' f (hsub f hf)
      simp only [r1, if_true] at q2 q3
      rw [← r2, hfb] at q3
      exact r3 hm ⟨q3.symm, q2⟩
    obtain ⟨l1, l2⟩ := wants_none l _ (n + (B.gone c ++ [(evAck tk).num (nx (B.goes c).seq)]).length) hl
    have hfold : (B.gone c ++ [(evAck tk).num (nx (B.goes c).seq)]).foldl whoStep F = fun x => if x = tk.o.id then tk.o.mb else F x := by
      rw [List.foldl_append, g2]; exact hak
    refine ⟨?_, fun o ho => ?_⟩
    · rw [w1, wants_app, hfold, l1, wants_app, g1, wants, if_neg (by simp [evAck, Ev.num]), wants]; rfl
    · rw [w1, List.foldl_append, hfold, l2]
      rcases w0 o ho with ⟨f, hf, e1, e2⟩ | ⟨e1, e2⟩
      · have := hF' f (hsub f hf)
        rw [e1, e2] at this
        exact this
      · show (if o.id = tk.o.id then tk.o.mb else F o.id) = o.mb
        rw [if_pos e1, e2]
  · rw [if_neg h2]
    exact ⟨g1, fun o ho => by rw [g2]; exact hF o (Bk.goes_mem ho)⟩

/-! ### how much a book tells -/
def ssum (l : List Ord) : Nat := (l.map Ord.shows).sum
def pot (B : Bk) : Nat := ssum B.bs + ssum B.ss
theorem pot_put (B : Bk) (s : Int) (l : List Ord) : pot (B.put s l) + ssum (B.side s) = pot B + ssum l := by
  unfold pot Bk.put Bk.side
  split <;> dsimp only <;> omega
theorem ssum_erase : ∀ (l : List Ord) (i : Nat), ssum (l.eraseIdx i) ≤ ssum l
  | [], _ => by simp [ssum]
  | o :: l, 0 => by simp [ssum]
  | o :: l, i + 1 => by
    have := ssum_erase l i
    simp only [ssum, List.eraseIdx_cons_succ, List.map_cons, List.sum_cons] at *
    omega
theorem comes_pot {B : Bk} {evs : List Ev} {t : Tk} (hOk : (B.ts evs t).Ok) (hI : (B.comes evs t).1.Inv) : (B.comes evs t).2.length + 2 * pot (B.comes evs t).1 ≤ evs.length + 2 * pot B + 520 := by
  obtain ⟨_, _, h3, _⟩ := (tr_run (meet := B.meet) (t := t) hOk).ok hOk
  have hmu : (B.ts evs t).mu ≤ ssum (B.side (3 - t.side)) + 1 := by
    unfold TS.mu ssum
    show ((B.side (3 - t.side)).map Ord.shows).sum + _ ≤ _
    split <;> omega
  have he : (B.ts evs t).evs.length = evs.length := rfl
  unfold Bk.comes at hI ⊢
  split
  · have : pot (B.num (nx B.seq)) = pot B := rfl
    rw [List.length_append, List.length_singleton]
    dsimp only
    omega
  · rename_i hfok
    rw [if_neg hfok] at hI
    simp only at hI ⊢
    generalize tr B.meet t (B.ts evs t) = z at *
    have hz : ssum z.L ≤ z.mu := by unfold TS.mu ssum; omega
    have hp : pot (B.traded t z) + ssum (B.side (3 - t.side)) = pot B + ssum z.L := pot_put B (3 - t.side) z.L
    split
    · dsimp only; omega
    · rename_i hl0
      rw [if_neg hl0] at hI
      split
      · have : pot ((B.traded t z).num (nx (B.traded t z).seq)) = pot (B.traded t z) := rfl
        rw [List.length_append, List.length_singleton]
        dsimp only
        omega
      · rename_i hk
        rw [if_neg hk] at hI
        dsimp only at hI ⊢
        have hq := pot_put (B.traded t z) t.side (rst t.side (restOf t.o z.left) ((B.traded t z).side t.side))
        have hr : ssum (rst t.side (restOf t.o z.left) ((B.traded t z).side t.side)) = (restOf t.o z.left).shows + ssum ((B.traded t z).side t.side) := rst_sum _ _ _
        have hin : restOf t.o z.left ∈ ((B.traded t z).put t.side (rst t.side (restOf t.o z.left) ((B.traded t z).side t.side))).bs ++ ((B.traded t z).put t.side (rst t.side (restOf t.o z.left) ((B.traded t z).side t.side))).ss := by
          have : restOf t.o z.left ∈ rst t.side (restOf t.o z.left) ((B.traded t z).side t.side) := by simp [rst]
          unfold Bk.put
          split <;> simp [this]
        have hs := shows_le (hI.good _ hin)
        omega
theorem does_pot {B : Bk} {c : Cm} (h : B.Inv) (hw : c.wf) : (B.does c).2.length + 2 * pot (B.does c).1 ≤ 2 * pot B + 600 := by
  have hI := does_inv h hw
  have hgo : pot (B.goes c) ≤ pot B := by
    unfold Bk.goes
    split
    · have h1 := pot_put B (B.at_ c).1 ((B.side (B.at_ c).1).eraseIdx (B.at_ c).2.1.toNat)
      have h2 := ssum_erase (B.side (B.at_ c).1) (B.at_ c).2.1.toNat
      show pot (B.put (B.at_ c).1 ((B.side (B.at_ c).1).eraseIdx (B.at_ c).2.1.toNat)) ≤ _
      omega
    · exact Nat.le_refl _
  have hgn : (B.gone c).length ≤ 1 := by
    unfold Bk.gone
    split
    · split <;> simp
    · simp
  unfold Bk.does at hI ⊢
  by_cases h0 : B.why c ≠ 0
  · rw [if_pos h0]
    have : pot (B.num (nx B.seq)) = pot B := rfl
    simp only [List.length_singleton]
    omega
  rw [if_neg h0] at hI ⊢
  obtain ⟨z1, z2, z3, z4, z5⟩ := rfs_zero (Decidable.of_not_not h0)
  by_cases h2 : c.k ≠ 2
  · rw [if_pos h2] at hI ⊢
    obtain ⟨s1, s2, _⟩ := chk_sized z2 h2 hw
    obtain ⟨f1, f2, f3, f4⟩ := cmg_facts (c := c) (tg := B.tgt c) (side := (B.at_ c).1)
    generalize cmg c (B.tgt c) (B.at_ c).1 = tk at *
    have := comes_pot (B := ((B.goes c).num (nx (B.goes c).seq)).top tk.o.id) (evs := B.gone c ++ [(evAck tk).num (nx (B.goes c).seq)]) (t := tk) (ts_ok (fun o ho => h.good o (Bk.goes_mem ho)) (by rw [f1]; omega) (by rw [f1]; omega)) hI
    have e1 : pot (((B.goes c).num (nx (B.goes c).seq)).top tk.o.id) = pot (B.goes c) := rfl
    rw [List.length_append, List.length_singleton] at this
    omega
  · rw [if_neg h2]
    dsimp only
    omega

/-! ### what a watch finds of it -/
def washes (l : List Al) : List Int := (l.filter fun a => decide (a.r = 1)).map Al.at_
theorem washes_snoc (l : List Al) (a : Al) : washes (l ++ [a]) = washes l ++ if a.r = 1 then [a.at_] else [] := by
  unfold washes
  rw [List.filter_append, List.map_append]
  congr 1
  by_cases h : a.r = 1 <;> simp [h]
theorem al_wash (w : Wn) (z : Wt × List Al) (r m o n : Int) : washes (Wt.al w z r m o n).2 = washes z.2 ++ if m ≠ 0 ∧ r = 1 then [z.1.n] else [] := by
  unfold Wt.al
  by_cases h : m = 0
  · rw [if_pos h, if_neg (fun hh => hh.1 h), List.append_nil]
  · rw [if_neg h]
    show washes (z.2 ++ [⟨r, m, z.1.n, o, n⟩]) = _
    rw [washes_snoc]
    by_cases hr : r = 1 <;> simp [h, hr]
theorem al_wash0 (w : Wn) (z : Wt × List Al) (r m o n : Int) (hr : r ≠ 1) : washes (Wt.al w z r m o n).2 = washes z.2 := by
  rw [al_wash, if_neg (fun hh => hr hh.2), List.append_nil]
theorem jump_wash (w : Wn) (z : Wt × List Al) (p m i : Int) : washes (jump w z p m i).2 = washes z.2 ∧ (jump w z p m i).1.n = z.1.n := by
  unfold jump
  split
  · exact ⟨rfl, rfl⟩
  · split
    · exact ⟨al_wash0 _ _ _ _ _ _ (by decide), (Wt.al_eq _ _ _ _ _ _).1⟩
    · exact ⟨rfl, rfl⟩
theorem trade1_n (W : Wt) (e : Ev) : (W.trade1 e).n = W.n := by
  unfold Wt.trade1 Wt.trade0
  dsimp only
  rw [(Wt.chg_eq _ _ _).1, (Wt.chg_eq _ _ _).1, (Wt.chg_eq _ _ _).1, (Wt.chg_eq _ _ _).1]; rfl
theorem ev_wash (w : Wn) (z : Wt × List Al) (e : Ev) : washes (Wt.ev w z e).2 = washes z.2 ++ (if wsh z.1.who e then [z.1.n + 1] else []) ∧ (Wt.ev w z e).1.n = z.1.n + 1 := by
  unfold Wt.ev
  have hwho : (z.1.tick w).who = z.1.who := rfl
  have hnn : (z.1.tick w).n = z.1.n + 1 := rfl
  by_cases h1 : e.kind = 1
  · rw [if_pos h1, if_neg (fun hh => by have := hh.1; omega), List.append_nil]
    have hn : ((z.1.tick w).ack0 e).n = z.1.n + 1 := by
      unfold Wt.ack0
      exact (Wt.chg_eq _ _ _).1
    unfold Wt.acks
    dsimp only
    split
    · exact ⟨al_wash0 _ _ _ _ _ _ (by decide), by rw [(Wt.al_eq _ _ _ _ _ _).1]; exact hn⟩
    · exact ⟨rfl, hn⟩
  · rw [if_neg h1]
    by_cases h3 : e.kind = 3
    · rw [if_pos h3]
      unfold Wt.trades
      dsimp only
      obtain ⟨j1, j2⟩ := jump_wash w (Wt.wash w (z.1.tick w) z.2 e) (tickOf e.pr) ((z.1.tick w).who e.id) e.id
      rw [j1, j2]
      unfold Wt.wash
      rw [hwho]
      by_cases hw : z.1.who e.id = z.1.who e.other
      · rw [if_pos hw, al_wash, (Wt.al_eq _ _ _ _ _ _).1]
        dsimp only
        rw [trade1_n, hnn]
        refine ⟨?_, rfl⟩
        by_cases h0 : z.1.who e.id = 0
        · rw [if_neg (fun hh => hh.1 h0), if_neg (fun hh => hh.2.1 h0)]
        · rw [if_pos ⟨h0, rfl⟩, if_pos ⟨h3, h0, hw⟩]
      · rw [if_neg hw, if_neg (fun hh => hw hh.2.2), List.append_nil]
        exact ⟨rfl, by rw [trade1_n]; rfl⟩
    · rw [if_neg h3, if_neg (c := wsh _ _) (fun hh => h3 hh.1), List.append_nil]
      split
      · unfold Wt.cancels
        dsimp only
        split
        · exact ⟨rfl, hnn⟩
        · rename_i k _
          have hc : ((z.1.tick w).chg k.m (fun p => { p with c := p.c + 1 })).n = z.1.n + 1 := (Wt.chg_eq _ _ _).1
          split
          · exact ⟨rfl, hc⟩
          · split
            · exact ⟨al_wash0 _ _ _ _ _ _ (by decide), by rw [(Wt.al_eq _ _ _ _ _ _).1]; exact hc⟩
            · exact ⟨rfl, hc⟩
      · exact ⟨rfl, hnn⟩
theorem add_wash (w : Wn) : ∀ (l : List Ev) (z : Wt × List Al), washes (Wt.add w z l).2 = washes z.2 ++ wants z.1.who z.1.n l ∧ (Wt.add w z l).1.who = l.foldl whoStep z.1.who ∧ (Wt.add w z l).1.n = z.1.n + l.length
  | [], z => by simp [Wt.add, wants]
  | e :: l, z => by
    obtain ⟨i1, i2, i3⟩ := add_wash w l (Wt.ev w z e)
    obtain ⟨e1, e2⟩ := ev_wash w z e
    have e3 : (Wt.ev w z e).1.who = whoStep z.1.who e := funext fun id => who_ev w z e id
    refine ⟨?_, ?_, ?_⟩
    · show washes (Wt.add w (Wt.ev w z e) l).2 = _
      rw [i1, e1, e2, e3, wants, List.append_assoc]
    · show (Wt.add w (Wt.ev w z e) l).1.who = _
      rw [i2, e3]; rfl
    · show (Wt.add w (Wt.ev w z e) l).1.n = _
      rw [i3, e2, List.length_cons]; omega
end Go.Proofs.Ytcbppikkoelimaa

/- The law RulesNumbers: its walk. -/
namespace Go.Proofs.Ytcbppikkoelimaa
open Go.V
set_option linter.unusedVariables false
set_option linter.unusedSimpArgs false

def crows (l : List Cm) : List Value := l.flatMap Cm.cells
theorem crows_length (l : List Cm) : (crows l).length = l.length * 9 := flatMap_length _ 9 (fun _ => rfl) l
theorem crows_get (l : List Cm) (i j : Nat) (hi : i < l.length) (hj : j < 9) : (crows l)[i * 9 + j]? = (l[i].cells)[j]? := flatMap_get _ 9 (fun _ => rfl) l i j hi hj
theorem Rd.cm {w : World} {no : List Nat} {A : Option Addr} {l : List Cm} (h : Rd w no A (crows l)) (hn : 0 < l.length) :
    ∃ b o, A = some ⟨b, o, none⟩ ∧ ∀ (i : Nat) (hi : i < l.length) (own : List Nat) (hs : Hp), (∀ x ∈ own, x ∈ no) → At w own hs ⟨b, o + i * 9, none⟩ l[i].cells := by
  obtain ⟨b, o, e, hb, hc⟩ := h.base (by rw [crows_length]; omega)
  refine ⟨b, o, e, fun i hi own hs hsub => At.old (fun j v hv => ?_) (fun hx => hb (hsub _ hx))⟩
  have hj : j < 9 := (List.getElem?_eq_some_iff.1 hv).1
  rw [add_none, Nat.add_assoc]
  exact hc (i * 9 + j) v (by rw [crows_get l i j hi hj]; exact hv)
theorem drop_at {α : Type} {l : List α} {j : Nat} (hj : j < l.length) : l.drop j = l[j] :: l.drop (j + 1) := List.drop_eq_getElem_cons hj
structure N3 where
  j : Nat
  s : Int
  h : Int
structure BS where
  i : Nat
  B : Bk
  v1 : Value
  v2 : Value
  k1 : Hp
  k2 : Hp
abbrev BS.H (x : BS) (b : Nat) : Hp := Tb b (Bc x.B x.v1 x.v2) :: (x.k1 ++ x.k2)
def BS.I (x : BS) (n : Nat) : Prop := x.i ≤ n ∧ x.B.Inv ∧ Side x.v1 x.B.bs x.k1 ∧ Side x.v2 x.B.ss x.k2
end Go.Proofs.Ytcbppikkoelimaa

/- The law RulesSound: its walk. -/
namespace Go.Proofs.Ytcbppikkoelimaa
open Go.V
set_option linter.unusedVariables false
set_option linter.unusedSimpArgs false

theorem Side.ld {w0 : World} {own : List Nat} {b o n c i j : Nat} {l : List Ord} {h hs : Hp} {v : Value} (k : Side (.slice (some ⟨b, o, none⟩) n c) l h) (hh : h ⊆ hs) (hi : i < l.length) (hj : j < 7) (hv : (l[i].cells)[j]? = some v) : At w0 own hs ⟨b, o + i * 7 + j, none⟩ [v] := by
  rw [Nat.add_assoc]
  exact OwnS.at1 k hh (by rw [rows_get l i j hi hj]; exact hv)
theorem Sd.at {s : Int} {l : List Ord} (h : Sd s l) {k : Nat} (hk : k + 1 < l.length) : bet s l[k + 1].pr l[k].pr = false := List.pairwise_iff_getElem.1 h k (k + 1) (by omega) hk (by omega)
abbrev Bx (b : Nat) (cc cm : Int) : Nat × Ch := (b, .cells [.int .i64 cc, .int .i64 cm] 51)
def BS.V (x : BS) (n : Nat) (cc : Int) : Prop := x.i ≤ n ∧ x.B.Vl ∧ x.B.cap = cc ∧ Side x.v1 x.B.bs x.k1 ∧ Side x.v2 x.B.ss x.k2
theorem does_cap (B : Bk) (c : Cm) : (B.does c).1.cap = B.cap ∧ (B.does c).1.meet = B.meet := by
  have hg := goes_cap B c
  unfold Bk.does
  split
  · exact ⟨rfl, rfl⟩
  · split
    · unfold Bk.comes
      split
      · exact ⟨hg.1, hg.2.1⟩
      · simp only
        split
        · unfold Bk.traded
          have := (((B.goes c).num (nx (B.goes c).seq)).top (cmg c (B.tgt c) (B.at_ c).1).o.id).put_cap (3 - (cmg c (B.tgt c) (B.at_ c).1).side)
          refine ⟨(this _).1.trans hg.1, (this _).2.1.trans hg.2.1⟩
        · split
          · unfold Bk.traded
            have := (((B.goes c).num (nx (B.goes c).seq)).top (cmg c (B.tgt c) (B.at_ c).1).o.id).put_cap (3 - (cmg c (B.tgt c) (B.at_ c).1).side)
            refine ⟨(this _).1.trans hg.1, (this _).2.1.trans hg.2.1⟩
          · have := (((B.goes c).num (nx (B.goes c).seq)).top (cmg c (B.tgt c) (B.at_ c).1).o.id).put_cap (3 - (cmg c (B.tgt c) (B.at_ c).1).side)
            refine ⟨(Bk.put_cap _ _ _).1.trans ((this _).1.trans hg.1), (Bk.put_cap _ _ _).2.1.trans ((this _).2.1.trans hg.2.1)⟩
    · exact ⟨hg.1, hg.2.1⟩
end Go.Proofs.Ytcbppikkoelimaa

/- SurveilWash: the law. -/
namespace Go.Proofs.Ytcbppikkoelimaa
open Go.V
set_option linter.unusedVariables false
set_option linter.unusedSimpArgs false

theorem NewW_yes (w : World) {c m : Int} (h : Cfg c m) : Does Try.prog 15 [.agg ⟨[.int .i64 c, .int .i64 m]⟩] [] w (fun v hs => ∃ b, v = .tuple ⟨[.pointer (some ⟨b, 0, none⟩), .int .i64 0]⟩ ∧ hs = [(b, .cells (bnew c m) 89)]) := by
  have := New_ok w c m
  simp only [if_pos h] at this
  exact this
theorem NewW_no (w : World) {c m : Int} (h : ¬ Cfg c m) : Is Try.prog 15 [.agg ⟨[.int .i64 c, .int .i64 m]⟩] w (.tuple ⟨[.pointer none, .int .i64 1]⟩) := by
  have := New_ok w c m
  simp only [if_neg h] at this
  exact this
theorem wants_take {F : Int → Int} {n : Int} {l : List Ev} {j : Nat} (h : j < l.length) : wants F n (l.take (j + 1)) = wants F n (l.take j) ++ (if wsh ((l.take j).foldl whoStep F) l[j] then [n + j + 1] else []) := by
  rw [take_snoc h, wants_app, List.length_take, Nat.min_eq_left (by omega)]
  simp only [wants, List.append_nil]
theorem whoL_take {F : Int → Int} {l : List Ev} {j : Nat} (h : j < l.length) : (l.take (j + 1)).foldl whoStep F = whoStep ((l.take j).foldl whoStep F) l[j] := by
  rw [take_snoc h, List.foldl_append]; rfl
theorem washes_take {l : List Al} {j : Nat} (h : j < l.length) : washes (l.take (j + 1)) = washes (l.take j) ++ (if l[j].r = 1 then [l[j].at_] else []) := by
  rw [take_snoc h, washes_snoc]
theorem wants_len (F : Int → Int) (n : Int) : ∀ (l : List Ev), (wants F n l).length ≤ l.length := by
  intro l
  induction l generalizing F n with
  | nil => simp [wants]
  | cons e l ih =>
    simp only [wants, List.length_append, List.length_cons]
    have := ih (whoStep F e) (n + 1)
    split <;> simp <;> omega
theorem washes_len (l : List Al) : (washes l).length ≤ l.length := by
  unfold washes; rw [List.length_map]; exact List.length_filter_le _ _
theorem ints_app (q : IntKind) (a b : List Int) : ints q (a ++ b) = ints q a ++ ints q b := List.map_append
theorem ints_len (q : IntKind) (a : List Int) : (ints q a).length = a.length := List.length_map _
theorem own_snoc {E : Nat} {v : Value} {ws : List Int} {n : Int} {h : Hp} (o : OwnS E 1 v (ws.length + 1) (ints .u64 ws ++ [.int .u64 n]) h) : OwnS E 1 v (ws ++ [n]).length (ints .u64 (ws ++ [n])) h := by
  rw [ints_app, List.length_append]; exact o
structure WLS where
  i : Nat
  B : Bk
  v1 : Value
  v2 : Value
  k1 : Hp
  k2 : Hp
  W : Wt
  z : WZ
  F : Int → Int
  es : List ME
  c : Nat
structure WL1 where
  j : Nat
  es : List ME
  c : Nat
  v : Value
  k : Hp
structure WL2 where
  j : Nat
  v : Value
  k : Hp
local macro "hpin" : tactic => `(tactic| (intro y hy; repeat (first | exact List.mem_append_left _ hy | exact hy | apply List.mem_append_right | apply List.mem_cons_of_mem)))
set_option maxRecDepth 20000 in
set_option maxHeartbeats 16000000 in
theorem SurveilWash_ok (w : World) (cc cm : Int) (wn : Wn) (A : Option Addr) (cap : Nat) (l : List Cm) (hA : Rd w [] A (crows l)) (hb : l.length ≤ 1100000) (hw : ∀ c ∈ l, c.wf) :
    Is Try.prog 5 [.agg ⟨[.int .i64 cc, .int .i64 cm]⟩, .agg ⟨wn.cells⟩, .slice A l.length cap] w (.bool true) := by
  refine Does.pure (Does.of (n := 174) Try.func5 rfl rfl rfl rfl ?_)
  refine .seq ((.region (.nw (.box (l := [.int .i64 cc, .int .i64 cm]) rfl rfl) fun b3 => (.nw (.box (l := wn.cells) rfl rfl) fun b4 => (.v (.assign rfl) (.nil ?_))))))
  by_cases hcfg : Cfg cc cm
  case neg =>
    refine .seq ((.region (.v (.loadA (vs := [.int .i64 cc, .int .i64 cm]) rfl .whole rfl) (.pc rfl rfl (fun w s => NewW_no w hcfg) ?_))))
    refine .v (.move rfl) (.v (.extract rfl rfl) (.v (.extract rfl rfl) (.v (.assign rfl) (.v (.assign rfl) (.nil ?_)))))
    by_cases hc : wn.Can
    case neg =>
      refine .seq ((.region (.v (.loadA (vs := wn.cells) rfl .whole rfl) (.pc rfl rfl (fun w s => SNew_no w hc) ?_))))
      refine .v (.move rfl) (.v (.extract rfl rfl) (.v (.extract rfl rfl) (.v (.assign rfl) (.v (.assign rfl) (.nil ?_)))))
      refine .seq (.seq ((.region (.v (.move rfl) (.v (.neq_ptr_nil rfl rfl) (.v (.loadA (vs := wn.cells) rfl .whole rfl) (.pc rfl rfl (fun w s => Valid_no w hc) ?_)))))))
      refine .v (.neb rfl rfl) (.v (.move rfl) (.or (b2 := false) 37 42 5 5 rfl rfl (fun g1 => .v (.move rfl) (.v (.eqi rfl rfl) (.v (.move rfl) (.v (.neq_ptr_nil rfl rfl) (.v (.neb rfl rfl) (.nil ⟨rfl, rfl, rfl, rfl⟩)))))) (.v (.move rfl) (.or (b2 := false) 44 49 5 5 rfl rfl (fun g2 => .v (.move rfl) (.v (.neq_ptr_nil rfl rfl) (.v (.move rfl) (.v (.eqi rfl rfl) (.v (.neb rfl rfl) (.nil ⟨rfl, rfl, rfl, rfl⟩)))))) (.nil ?_)))))
      refine .cond_false rfl (.skip ?_)
      refine .seq (.seq ((.region (.v (.move rfl) (.v (.eql_ptr_nil rfl rfl) (.v (.move rfl) (.or (b2 := true) 53 55 2 2 rfl rfl (fun g3 => absurd g3 (by simp)) (.nil ?_))))))))
      refine .cond_true rfl ?_
      refine .seq ((.region (.v (.assign rfl) (.nil ?_))))
      exact .ret ⟨[_], ⟨rfl, trivial⟩, rfl⟩
    refine .seq ((.region (.v (.loadA (vs := wn.cells) rfl .whole rfl) ?_)))
    refine .ef (.call0 rfl rfl fun w s => SNew_yes w hc) ?_
    rintro _ _ ⟨_, ⟨p, zp, rfl, rfl, hIp⟩, rfl⟩
    refine .v (.move rfl) (.v (.extract rfl rfl) (.v (.extract rfl rfl) (.v (.assign rfl) (.v (.assign rfl) (.nil ?_)))))
    refine .seq (.seq ((.region (.v (.move rfl) (.v (.neq_ptr_nil rfl rfl) (.v (.loadA (vs := wn.cells) rfl .whole rfl) (.pc rfl rfl (fun w s => Valid_yes w hc) ?_)))))))
    refine .v (.neb rfl rfl) (.v (.move rfl) (.or (b2 := false) 37 42 5 5 rfl rfl (fun g1 => .v (.move rfl) (.v (.eqi rfl rfl) (.v (.move rfl) (.v (.neq_ptr_nil rfl rfl) (.v (.neb rfl rfl) (.nil ⟨rfl, rfl, rfl, rfl⟩)))))) (.v (.move rfl) (.or (b2 := false) 44 49 5 5 rfl rfl (fun g2 => .v (.move rfl) (.v (.neq_ptr_nil rfl rfl) (.v (.move rfl) (.v (.eqi rfl rfl) (.v (.neb rfl rfl) (.nil ⟨rfl, rfl, rfl, rfl⟩)))))) (.nil ?_)))))
    refine .cond_false rfl (.skip ?_)
    refine .seq (.seq ((.region (.v (.move rfl) (.v (.eql_ptr_nil rfl rfl) (.v (.move rfl) (.or (b2 := true) 53 55 2 2 rfl rfl (fun g3 => absurd g3 (by simp)) (.nil ?_))))))))
    refine .cond_true rfl ?_
    refine .seq ((.region (.v (.assign rfl) (.nil ?_))))
    exact .ret ⟨[_], ⟨rfl, trivial⟩, rfl⟩
  refine .seq ((.region (.v (.loadA (vs := [.int .i64 cc, .int .i64 cm]) rfl .whole rfl) ?_)))
  refine .ef (.call0 rfl rfl fun w s => NewW_yes w hcfg) ?_
  rintro _ _ ⟨_, ⟨b, rfl, rfl⟩, rfl⟩
  refine .v (.move rfl) (.v (.extract rfl rfl) (.v (.extract rfl rfl) (.v (.assign rfl) (.v (.assign rfl) (.nil ?_)))))
  by_cases hc : wn.Can
  case neg =>
    refine .seq ((.region (.v (.loadA (vs := wn.cells) rfl .whole rfl) (.pc rfl rfl (fun w s => SNew_no w hc) ?_))))
    refine .v (.move rfl) (.v (.extract rfl rfl) (.v (.extract rfl rfl) (.v (.assign rfl) (.v (.assign rfl) (.nil ?_)))))
    refine .seq (.seq ((.region (.v (.move rfl) (.v (.neq_ptr_nil rfl rfl) (.v (.loadA (vs := wn.cells) rfl .whole rfl) (.pc rfl rfl (fun w s => Valid_no w hc) ?_)))))))
    refine .v (.neb rfl rfl) (.v (.move rfl) (.or (b2 := false) 37 42 5 5 rfl rfl (fun g1 => .v (.move rfl) (.v (.eqi rfl rfl) (.v (.move rfl) (.v (.neq_ptr_nil rfl rfl) (.v (.neb rfl rfl) (.nil ⟨rfl, rfl, rfl, rfl⟩)))))) (.v (.move rfl) (.or (b2 := false) 44 49 5 5 rfl rfl (fun g2 => .v (.move rfl) (.v (.neq_ptr_nil rfl rfl) (.v (.move rfl) (.v (.eqi rfl rfl) (.v (.neb rfl rfl) (.nil ⟨rfl, rfl, rfl, rfl⟩)))))) (.nil ?_)))))
    refine .cond_false rfl (.skip ?_)
    refine .seq (.seq ((.region (.v (.move rfl) (.v (.eql_ptr_nil rfl rfl) (.v (.move rfl) (.or (b2 := true) 53 55 2 2 rfl rfl (fun g3 => .v (.move rfl) (.v (.eql_ptr_nil rfl rfl) (.nil ⟨rfl, rfl, rfl, rfl⟩))) (.nil ?_))))))))
    refine .cond_true rfl ?_
    refine .seq ((.region (.v (.assign rfl) (.nil ?_))))
    exact .ret ⟨[_], ⟨rfl, trivial⟩, rfl⟩
  refine .seq ((.region (.v (.loadA (vs := wn.cells) rfl .whole rfl) ?_)))
  refine .ef (.call0 rfl rfl fun w s => SNew_yes w hc) ?_
  rintro _ _ ⟨_, ⟨p, zp, rfl, rfl, hIp⟩, rfl⟩
  refine .v (.move rfl) (.v (.extract rfl rfl) (.v (.extract rfl rfl) (.v (.assign rfl) (.v (.assign rfl) (.nil ?_)))))
  refine .seq (.seq ((.region (.v (.move rfl) (.v (.neq_ptr_nil rfl rfl) (.v (.loadA (vs := wn.cells) rfl .whole rfl) (.pc rfl rfl (fun w s => Valid_yes w hc) ?_)))))))
  refine .v (.neb rfl rfl) (.v (.move rfl) (.or (b2 := false) 37 42 5 5 rfl rfl (fun g1 => .v (.move rfl) (.v (.eqi rfl rfl) (.v (.move rfl) (.v (.neq_ptr_nil rfl rfl) (.v (.neb rfl rfl) (.nil ⟨rfl, rfl, rfl, rfl⟩)))))) (.v (.move rfl) (.or (b2 := false) 44 49 5 5 rfl rfl (fun g2 => .v (.move rfl) (.v (.neq_ptr_nil rfl rfl) (.v (.move rfl) (.v (.eqi rfl rfl) (.v (.neb rfl rfl) (.nil ⟨rfl, rfl, rfl, rfl⟩)))))) (.nil ?_)))))
  refine .cond_false rfl (.skip ?_)
  refine .seq (.seq ((.region (.v (.move rfl) (.v (.eql_ptr_nil rfl rfl) (.v (.move rfl) (.or (b2 := false) 53 55 2 2 rfl rfl (fun g3 => .v (.move rfl) (.v (.eql_ptr_nil rfl rfl) (.nil ⟨rfl, rfl, rfl, rfl⟩))) (.nil ?_))))))))
  refine .cond_false rfl (.skip ?_)
  refine .seq ((.region (.ef (.makeMap .u64) ?_)))
  rintro _ _ ⟨mw, rfl, rfl⟩
  refine .v (.assign rfl) (.nil ?_)
  refine .keep (M64 mw [] 0 :: ((b, .cells (bnew cc cm) 89) :: (WZ.H p wn 0 zp ++ [(b3, .cells [.int .i64 cc, .int .i64 cm] 51)]))) ?_
  refine .seq (.seq ((.region (.v (.assign rfl) (.nil ?_)))))
  refine .block (.loop (X := WLS) (fun x => [(2, .slice A l.length cap), (3, .pointer (some ⟨b3, 0, none⟩)), (7, .pointer (some ⟨b, 0, none⟩)), (9, .pointer (some ⟨p.b, 0, none⟩)), (11, .map (some mw)), (12, .int .i64 x.i)]) (fun x => M64 mw x.es x.c :: ((Tb b (Bc x.B x.v1 x.v2) :: (x.k1 ++ x.k2)) ++ (WZ.H p wn x.W.n x.z ++ [(b3, .cells [.int .i64 cc, .int .i64 cm] 51)])))
    (fun x => x.i ≤ l.length ∧ (x.B.Vl ∧ x.B.meet = cm ∧ Side x.v1 x.B.bs x.k1 ∧ Side x.v2 x.B.ss x.k2) ∧ (WI x.W x.z ∧ x.W.Bd 0 ∧ x.W.who = x.F ∧ x.W.n + 2 * (pot x.B : Int) ≤ 600 * (x.i : Int)) ∧ (MOk x.es x.c ∧ ∀ id, (mget id x.es).getD (.int .u32 0) = .int .u32 (x.F id)) ∧ (cm ≠ 0 → ∀ o ∈ x.B.bs ++ x.B.ss, x.F o.id = o.mb))
    (fun x => l.length - x.i) ⟨0, newB cc cm, .slice none 0 0, .slice none 0 0, [], [], Wt.new, zp, fun _ => 0, [], 0⟩ ⟨Nat.zero_le _, ⟨newB_vl hcfg, rfl, OwnS.nil _ _, OwnS.nil _ _⟩, ⟨hIp, Wt.Bd.new, rfl, by simp [pot, newB, ssum, Wt.new]⟩, ⟨MOk.nil, fun _ => rfl⟩, fun _ o ho => by simp [newB] at ho⟩
    (.cons rfl (.cons rfl (.cons rfl (.cons rfl (.cons rfl (.cons rfl (.nil _))))))) (fun _ s => s) ?_)
  rintro ⟨i, B, v1, v2, k1, k2, W, z, F, es, c0⟩ ⟨hi, ⟨hV, hmeet, s1, s2⟩, ⟨hI, hB, hwho, hpot⟩, ⟨hmo, hget⟩, hnw⟩
  dsimp only at hi hV hmeet s1 s2 hI hB hwho hpot hmo hget hnw ⊢
  refine .seq (.seq ((.region (.v (.move rfl) (.v (.move rfl) (.v (.len rfl) (.v (.lss rfl rfl) (.nil ?_))))))))
  refine .cond_dec rfl (fun h3 => .skip ?_) (fun h3 => .exit ?_)
  case refine_2 =>
    refine .seq ((.region (.v (.assign rfl) (.nil ?_))))
    exact .ret ⟨[_], ⟨rfl, trivial⟩, rfl⟩
  have hil : i < l.length := by omega
  obtain ⟨ba, oa, rfl, hat⟩ := Rd.cm hA (by omega)
  have hcw := hw _ (List.getElem_mem hil)
  have hat := hat i hil
  generalize l[i] = c at hat hcw
  have hV' := does_vl hV hcw
  have hel := does_len hV.inv hcw
  have hdp := does_pot hV.inv hcw
  have hdm := (does_cap B c).2
  have hdw := fun hm => does_wash hV hcw F W.n (by rw [hmeet]; exact hm) (hnw hm)
  have hn0 := hB.n
  refine .seq (.block (.seq ((.region (.v (.move rfl) (.v (.move rfl) (.v (.move rfl) (.v (.indexAddr rfl rfl (by omega) (by omega)) (.v (.loadA (vs := c.cells) rfl (hat _ _ (by simp [bl])) rfl) ?_)))))))))
  refine .ef (.callT (Tb b (Bc B v1 v2) :: (k1 ++ k2)) rfl rfl (fun w s => Does.call_Do w b B hV.inv.ok c hcw.2.1 hcw.2.2 v1 v2 k1 k2 s1 s2)) ?_
  generalize hDo : B.does c = D at hV' hel hdp hdm hdw
  obtain ⟨B', evs⟩ := D
  rintro _ _ ⟨_, ⟨Ae, ce, v1', v2', k1', k2', ke, rfl, rfl, s1', s2', hE⟩, rfl⟩
  dsimp only at hV' hel hdp hdm hdw s1' s2' hE ⊢
  clear s1 s2 hV
  refine .v (.assign rfl) (.nil ?_)
  refine .seq ((.region (.ef (.buildSlice (out := []) rfl (by decide) rfl rfl) ?_)))
  rintro _ _ ⟨b70, rfl, rfl⟩
  refine .ef (.buildSlice (out := []) rfl (by decide) rfl rfl) ?_
  rintro _ _ ⟨b71, rfl, rfl⟩
  refine .v (.assign rfl) (.v (.assign rfl) (.nil ?_))
  refine .keep (M64 mw es c0 :: ([(b70, Ch.cells [] 32)] ++ (ke ++ ([(b71, Ch.cells [] 32)] ++ (WZ.H p wn W.n z ++ ((Tb b (Bc B' v1' v2') :: (k1' ++ k2')) ++ [(b3, .cells [.int .i64 cc, .int .i64 cm] 51)])))))) ?_
  refine .seq ((.region (.v (.move rfl) (.pc (v := .int .u64 W.n) rfl rfl (fun w s => Count_ok s p wn W.n (z := z) (by hpin)) (.v (.assign rfl) (.nil ?_))))))
  refine .seq (.seq ((.region (.v (.assign rfl) (.nil ?_)))))
  -- what the document wants
  refine .block (.loop (X := WL1) (fun x => [(2, .slice (some ⟨ba, oa, none⟩) l.length cap), (3, .pointer (some ⟨b3, 0, none⟩)), (7, .pointer (some ⟨b, 0, none⟩)), (9, .pointer (some ⟨p.b, 0, none⟩)), (11, .map (some mw)), (12, .int .i64 i), (13, .slice Ae evs.length ce), (14, x.v), (15, .slice (some ⟨b71, 0, none⟩) 0 0), (16, .int .u64 W.n), (17, .int .i64 x.j)])
    (fun x => M64 mw x.es x.c :: (x.k ++ (ke ++ ([(b71, Ch.cells [] 32)] ++ (WZ.H p wn W.n z ++ ((Tb b (Bc B' v1' v2') :: (k1' ++ k2')) ++ [(b3, .cells [.int .i64 cc, .int .i64 cm] 51)]))))))
    (fun x => x.j ≤ evs.length ∧ (MOk x.es x.c ∧ ∀ id, (mget id x.es).getD (.int .u32 0) = .int .u32 ((evs.take x.j).foldl whoStep F id)) ∧ OwnS 32 1 x.v (wants F W.n (evs.take x.j)).length (ints .u64 (wants F W.n (evs.take x.j))) x.k)
    (fun x => evs.length - x.j) ⟨0, es, c0, .slice (some ⟨b70, 0, none⟩) 0 0, [(b70, Ch.cells [] 32)]⟩ ⟨Nat.zero_le _, ⟨hmo, hget⟩, ⟨rfl, .inr ⟨b70, 0, 0, [], rfl, rfl, Nat.le_refl 0, Nat.le_refl 0, rfl⟩⟩⟩
    (.cons rfl (.cons rfl (.cons rfl (.cons rfl (.cons rfl (.cons rfl (.cons rfl (.cons rfl (.cons rfl (.cons rfl (.cons rfl (.nil _)))))))))))) (fun _ s => s) ?_)
  rintro ⟨j, es, c1, v, k⟩ ⟨hj, ⟨hmo, hget⟩, ow⟩
  dsimp only at hj hmo hget ow ⊢
  refine .seq (.seq ((.region (.v (.move rfl) (.v (.move rfl) (.v (.len rfl) (.v (.lss rfl rfl) (.nil ?_))))))))
  refine .cond_dec rfl (fun h4 => .skip ?_) (fun h4 => .exit ?_)
  · have hjl : j < evs.length := by omega
    obtain ⟨be, oe, le, rfl, -, rfl, -, -, -⟩ := OwnS.some_ hE (by omega)
    have hev := fun hs' hsub => recAt Ev.cells 13 (fun _ => rfl) (l := evs) (i := j) (z := (j : Int)) (OwnS.at0 (w0 := w) (own := []) (hs := hs') hE hsub) hjl
    have hwt := wants_take (F := F) (n := W.n) hjl
    have hwl := whoL_take (F := F) hjl
    have hlen := wants_len F W.n (evs.take j)
    rw [List.length_take] at hlen
    generalize evs[j] = e at hev hwt hwl
    obtain ⟨Aw, kw, rfl⟩ := OwnS.slice ow
    refine .mid (X := WL1) (fun x => [(2, .slice (some ⟨ba, oa, none⟩) l.length cap), (3, .pointer (some ⟨b3, 0, none⟩)), (7, .pointer (some ⟨b, 0, none⟩)), (9, .pointer (some ⟨p.b, 0, none⟩)), (11, .map (some mw)), (12, .int .i64 i), (13, .slice (some ⟨be, oe, none⟩) evs.length ce), (14, x.v), (15, .slice (some ⟨b71, 0, none⟩) 0 0), (16, .int .u64 W.n), (17, .int .i64 j)])
      (fun x => M64 mw x.es x.c :: (x.k ++ ([(be, Ch.cells le 34)] ++ ([(b71, Ch.cells [] 32)] ++ (WZ.H p wn W.n z ++ ((Tb b (Bc B' v1' v2') :: (k1' ++ k2')) ++ [(b3, .cells [.int .i64 cc, .int .i64 cm] 51)]))))))
      (fun x => (MOk x.es x.c ∧ ∀ id, (mget id x.es).getD (.int .u32 0) = .int .u32 ((evs.take (j + 1)).foldl whoStep F id)) ∧ OwnS 32 1 x.v (wants F W.n (evs.take (j + 1))).length (ints .u64 (wants F W.n (evs.take (j + 1)))) x.k)
      (.block (.seq ((.region (.v (.move rfl) (.v (.move rfl) (.v (.indexAddr rfl rfl (by omega) (by omega)) (.v (.loadA (vs := e.cells) rfl (hev _ (by intro y hy; simp at hy; subst hy; simp)) rfl) (.nw .alloc fun b18 => (.st (.sw rfl rfl) (.nil ?_))))))))))) ?_
    · rw [hwl, hwt]
      generalize hFj : (evs.take j).foldl whoStep F = Fj at hget
      generalize hws : wants F W.n (evs.take j) = ws at ow hlen
      refine .mid (X := List ME × Nat) (fun _ => [(2, .slice (some ⟨ba, oa, none⟩) l.length cap), (3, .pointer (some ⟨b3, 0, none⟩)), (7, .pointer (some ⟨b, 0, none⟩)), (9, .pointer (some ⟨p.b, 0, none⟩)), (11, .map (some mw)), (12, .int .i64 i), (13, .slice (some ⟨be, oe, none⟩) evs.length ce), (14, .slice Aw ws.length kw), (15, .slice (some ⟨b71, 0, none⟩) 0 0), (16, .int .u64 W.n), (17, .int .i64 j), (18, .pointer (some ⟨b18, 0, none⟩))])
        (fun x => Evb b18 e :: (M64 mw x.1 x.2 :: (k ++ ([(be, Ch.cells le 34)] ++ ([(b71, Ch.cells [] 32)] ++ (WZ.H p wn W.n z ++ ((Tb b (Bc B' v1' v2') :: (k1' ++ k2')) ++ [(b3, .cells [.int .i64 cc, .int .i64 cm] 51)])))))))
        (fun x => MOk x.1 x.2 ∧ ∀ id, (mget id x.1).getD (.int .u32 0) = .int .u32 (whoStep Fj e id)) (.seq ((.region (.v (.fieldAddr rfl) (.v (.load (v := .int .i64 e.kind) rfl (.one rfl)) (.v (.eqi rfl rfl) (.nil ?_))))))) ?_
      · unfold whoStep
        refine .cond_dec rfl (fun h5 => ?_) (fun h5 => .skip ?_)
        · rw [if_pos h5]
          refine .region (.v (.move rfl) (.v (.fieldAddr rfl) (.v (.load (v := .int .u64 e.id) rfl (.one rfl)) (.v (.fieldAddr rfl) (.v (.load (v := .int .u32 e.mb) rfl (.one rfl)) (.st (.mapUpdate (es := es) (c := c1) rfl rfl rfl) (.nil ?_)))))))
          refine ⟨((mset e.id (.int .u32 e.mb) es c1).1, (mset e.id (.int .u32 e.mb) es c1).2), ⟨hmo.set _ _, fun id => ?_⟩, .cons rfl (.cons rfl (.cons rfl (.cons rfl (.cons rfl (.cons rfl (.cons rfl (.cons rfl (.cons rfl (.cons rfl (.cons rfl (.cons rfl (.nil _)))))))))))), fun _ s => s.take⟩
          dsimp only
          rw [mget_set]
          by_cases e1 : id = e.id
          · rw [if_pos e1, if_pos e1]; rfl
          · rw [if_neg e1, if_neg e1]; exact hget id
        · rw [if_neg h5]
          exact ⟨(es, c1), ⟨hmo, hget⟩, .cons rfl (.cons rfl (.cons rfl (.cons rfl (.cons rfl (.cons rfl (.cons rfl (.cons rfl (.cons rfl (.cons rfl (.cons rfl (.cons rfl (.nil _)))))))))))), fun _ s => s.take⟩
      · clear hmo hget es c1
        rintro ⟨es, c1⟩ ⟨hmo, hget⟩
        dsimp only at hmo hget ⊢
        have hsame : e.kind = 3 → whoStep Fj e = Fj := fun h => if_neg (by omega)
        generalize whoStep Fj e = G at hget hsame
        refine .seq ((.region (.v (.fieldAddr rfl) (.v (.load (v := .int .i64 e.kind) rfl (.one rfl)) (.v (.eqi rfl rfl) (.v (.move rfl) (.and (b2 := decide (G e.id ≠ 0)) 95 100 5 5 rfl rfl (fun g4 => .v (.move rfl) (.v (.fieldAddr rfl) (.v (.load (v := .int .u64 e.id) rfl (.one rfl)) (.v (.lookupE (es := es) (c := c1) (v := .int .u32 (G e.id)) rfl rfl (hget _)) (.v (.nei rfl rfl) (.nil ⟨rfl, rfl, rfl, rfl⟩)))))) (.v (.move rfl) (.and (b2 := decide (G e.id = G e.other)) 102 111 9 9 rfl rfl (fun g5 => .v (.move rfl) (.v (.fieldAddr rfl) (.v (.load (v := .int .u64 e.id) rfl (.one rfl)) (.v (.lookupE (es := es) (c := c1) (v := .int .u32 (G e.id)) rfl rfl (hget _)) (.v (.move rfl) (.v (.fieldAddr rfl) (.v (.load (v := .int .u64 e.other) rfl (.one rfl)) (.v (.lookupE (es := es) (c := c1) (v := .int .u32 (G e.other)) rfl rfl (hget _)) (.v (.eqi rfl rfl) (.nil ⟨rfl, rfl, rfl, rfl⟩)))))))))) (.nil ?_))))))))))
        refine .cond rfl (fun h6 => ?_) (fun h6 => .skip ?_)
        · simp only [Bool.and_eq_true, decide_eq_true_eq] at h6
          have hsh : wsh Fj e := by rw [hsame h6.1.1] at h6; exact ⟨h6.1.1, h6.1.2, h6.2⟩
          rw [if_pos hsh]
          refine .region (.v (.move rfl) (.v (.move rfl) (.v (.move rfl) (.v (.convE (j : Int) rfl (wrap_u64_in (by omega))) (.v (.addU (W.n + j) rfl rfl rfl (by omega)) (.v (.addU (W.n + j + 1) rfl rfl rfl (by omega)) ?_))))))
          refine .ef (.buildSlice (out := [.int .u64 (W.n + j + 1)]) rfl (by decide) rfl rfl) ?_
          rintro _ _ ⟨b119, rfl, rfl⟩
          refine .ef (.append (c := ws.length) (k := 1) (vs := ints .u64 ws) (news := [.int .u64 (W.n + j + 1)]) (h := k) rfl rfl ow TakeI.out (fun w' s => Src.of_at s .whole rfl) rfl rfl (by omega) (by omega)) ?_
          rintro v3 _ ⟨k3, o3, rfl⟩
          refine .v (.assign rfl) (.nil ?_)
          exact ⟨⟨0, es, c1, v3, k3⟩, ⟨⟨hmo, hget⟩, own_snoc o3⟩, .cons rfl (.cons rfl (.cons rfl (.cons rfl (.cons rfl (.cons rfl (.cons rfl (.cons rfl (.cons rfl (.cons rfl (.cons rfl (.nil _))))))))))), fun _ s => s.take⟩
        · have hsh : ¬ wsh Fj e := by
            intro hh
            have : ((decide (e.kind = 3) && decide (G e.id ≠ 0)) && decide (G e.id = G e.other)) = true := by
              rw [hsame hh.1]
              simp only [Bool.and_eq_true, decide_eq_true_eq]
              exact ⟨⟨hh.1, hh.2.1⟩, hh.2.2⟩
            rw [this] at h6; cases h6
          rw [if_neg hsh, List.append_nil]
          exact ⟨⟨0, es, c1, .slice Aw ws.length kw, k⟩, ⟨⟨hmo, hget⟩, ow⟩, .cons rfl (.cons rfl (.cons rfl (.cons rfl (.cons rfl (.cons rfl (.cons rfl (.cons rfl (.cons rfl (.cons rfl (.cons rfl (.nil _))))))))))), fun _ s => s.take⟩
    · rintro ⟨_, es', c1', v', k'⟩ ⟨hm', ow'⟩
      dsimp only at hm' ow' ⊢
      refine .region (.v (.move rfl) (.v (.addi rfl rfl (by omega)) (.v (.assign rfl) (.nil ?_))))
      exact ⟨⟨j + 1, es', c1', v', k'⟩, ⟨hjl, hm', ow'⟩, by show evs.length - (j + 1) < _; omega, .cons rfl (.cons rfl (.cons rfl (.cons rfl (.cons rfl (.cons rfl (.cons rfl (.cons rfl (.cons rfl (.cons rfl (.cons rfl (.nil _))))))))))), fun _ s => s⟩
  have hjl : j = evs.length := by omega
  subst hjl
  rw [List.take_length] at hget ow
  obtain ⟨Aw, kw, rfl⟩ := OwnS.slice ow
  have hlw := wants_len F W.n evs
  -- what the watch finds
  refine .seq ((.region (.v (.move rfl) (.v (.move rfl) ?_))))
  refine .ef (.callT (WZ.H p wn W.n z) rfl rfl fun w s => add_ok w p wn hc hI hB evs Ae ce (OwnS.rd hE s (fun y hy => by simp [hy]) (Sat.apart (a := ke) (b := WZ.H p wn W.n z) s)) (by omega)) ?_
  rintro v1 _ ⟨_, ⟨z', kf, rfl, hI', of⟩, rfl⟩
  refine .v (.assign rfl) (.nil ?_)
  obtain ⟨hB', hn', hl'⟩ := Wt.Bd.add (w := wn) evs (z := (W, [])) hB
  obtain ⟨hw1, hw2, -⟩ := add_wash wn evs (W, [])
  rw [show washes ([] : List Al) = [] from rfl, List.nil_append] at hw1
  dsimp only at hw1 hw2 hn' hl'
  rw [hwho] at hw1 hw2
  generalize Wt.add wn (W, []) evs = R at hI' of hB' hn' hl' hw1 hw2
  rw [List.length_nil, Nat.zero_add] at hl'
  generalize hws : wants F W.n evs = ws at ow hlw hw1 hdw
  rw [← hn']
  obtain ⟨Af, cf, rfl⟩ := OwnS.slice of
  refine .keep ([(b71, Ch.cells [] 32)] ++ (kf ++ (k ++ (M64 mw es c1 :: ((Tb b (Bc B' v1' v2') :: (k1' ++ k2')) ++ (WZ.H p wn R.1.n z' ++ [(b3, .cells [.int .i64 cc, .int .i64 cm] 51)])))))) ?_
  refine .mid (X := WL2) (fun x => [(2, .slice (some ⟨ba, oa, none⟩) l.length cap), (3, .pointer (some ⟨b3, 0, none⟩)), (7, .pointer (some ⟨b, 0, none⟩)), (9, .pointer (some ⟨p.b, 0, none⟩)), (11, .map (some mw)), (12, .int .i64 i), (14, .slice Aw ws.length kw), (15, x.v)])
    (fun x => x.k ++ (kf ++ (k ++ (M64 mw es c1 :: ((Tb b (Bc B' v1' v2') :: (k1' ++ k2')) ++ (WZ.H p wn R.1.n z' ++ [(b3, .cells [.int .i64 cc, .int .i64 cm] 51)])))))) (fun x => OwnS 32 1 x.v ws.length (ints .u64 ws) x.k) (.seq ((.region (.v (.assign rfl) (.nil ?_))))) ?_
  · refine .block (.loop (X := WL2) (fun x => [(2, .slice (some ⟨ba, oa, none⟩) l.length cap), (3, .pointer (some ⟨b3, 0, none⟩)), (7, .pointer (some ⟨b, 0, none⟩)), (9, .pointer (some ⟨p.b, 0, none⟩)), (11, .map (some mw)), (12, .int .i64 i), (14, .slice Aw ws.length kw), (15, x.v), (19, .slice Af R.2.length cf), (20, .int .i64 x.j)])
      (fun x => x.k ++ (kf ++ (k ++ (M64 mw es c1 :: ((Tb b (Bc B' v1' v2') :: (k1' ++ k2')) ++ (WZ.H p wn R.1.n z' ++ [(b3, .cells [.int .i64 cc, .int .i64 cm] 51)])))))) (fun x => x.j ≤ R.2.length ∧ OwnS 32 1 x.v (washes (R.2.take x.j)).length (ints .u64 (washes (R.2.take x.j))) x.k) (fun x => R.2.length - x.j)
      ⟨0, .slice (some ⟨b71, 0, none⟩) 0 0, [(b71, Ch.cells [] 32)]⟩ ⟨Nat.zero_le _, ⟨rfl, .inr ⟨b71, 0, 0, [], rfl, rfl, Nat.le_refl 0, Nat.le_refl 0, rfl⟩⟩⟩ (.cons rfl (.cons rfl (.cons rfl (.cons rfl (.cons rfl (.cons rfl (.cons rfl (.cons rfl (.cons rfl (.cons rfl (.nil _))))))))))) (fun _ s => s) ?_)
    rintro ⟨j, v, kg⟩ ⟨hj, og⟩
    dsimp only at hj og ⊢
    refine .seq (.seq ((.region (.v (.move rfl) (.v (.move rfl) (.v (.len rfl) (.v (.lss rfl rfl) (.nil ?_))))))))
    refine .cond_dec rfl (fun h8 => .skip ?_) (fun h8 => .exit ?_)
    · have hjl : j < R.2.length := by omega
      obtain ⟨bf, of_, lf, rfl, -, rfl, -, -, -⟩ := OwnS.some_ of (by omega)
      have qa := fun hs' hsub k v hv => fldAt Al.cells 5 (fun _ => rfl) (l := R.2) (i := j) (z := (j : Int)) (OwnS.at0 (w0 := w) (own := []) (hs := hs') of hsub) hjl k (v := v) hv
      have hwt := washes_take hjl
      have hlen := washes_len (R.2.take j)
      rw [List.length_take] at hlen
      generalize R.2[j] = a at qa hwt
      obtain ⟨Ag, cg, rfl⟩ := OwnS.slice og
      refine .mid (X := WL2) (fun x => [(2, .slice (some ⟨ba, oa, none⟩) l.length cap), (3, .pointer (some ⟨b3, 0, none⟩)), (7, .pointer (some ⟨b, 0, none⟩)), (9, .pointer (some ⟨p.b, 0, none⟩)), (11, .map (some mw)), (12, .int .i64 i), (14, .slice Aw ws.length kw), (15, x.v), (19, .slice (some ⟨bf, of_, none⟩) R.2.length cf), (20, .int .i64 j)])
        (fun x => x.k ++ ([(bf, Ch.cells lf 46)] ++ (k ++ (M64 mw es c1 :: ((Tb b (Bc B' v1' v2') :: (k1' ++ k2')) ++ (WZ.H p wn R.1.n z' ++ [(b3, .cells [.int .i64 cc, .int .i64 cm] 51)])))))) (fun x => OwnS 32 1 x.v (washes (R.2.take (j + 1))).length (ints .u64 (washes (R.2.take (j + 1)))) x.k)
        (.block (.seq ((.region (.v (.move rfl) (.v (.move rfl) (.v (.indexAddr rfl rfl (by omega) (by omega)) (.v (.fieldAddr rfl) (.v (.load (v := .int .i64 a.r) rfl (qa _ (by intro y hy; simp at hy; subst hy; simp) 0 _ rfl)) (.v (.eqi rfl rfl) (.nil ?_))))))))))) ?_
      · rw [hwt]
        generalize hgs : washes (R.2.take j) = gs at og hlen
        refine .cond_dec rfl (fun h9 => ?_) (fun h9 => .skip ?_)
        · rw [if_pos h9]
          refine .region (.v (.move rfl) (.v (.move rfl) (.v (.move rfl) (.v (.indexAddr rfl rfl (by omega) (by omega)) (.v (.fieldAddr rfl) (.v (.load (v := .int .u64 a.at_) rfl (qa _ (by intro y hy; simp at hy; subst hy; simp) 2 _ rfl)) ?_))))))
          refine .ef (.buildSlice (out := [.int .u64 a.at_]) rfl (by decide) rfl rfl) ?_
          rintro _ _ ⟨b142, rfl, rfl⟩
          refine .ef (.append (c := gs.length) (k := 1) (vs := ints .u64 gs) (news := [.int .u64 a.at_]) (h := kg) rfl rfl og TakeI.out (fun w' s => Src.of_at s .whole rfl) rfl rfl (by omega) (by omega)) ?_
          rintro v3 _ ⟨k3, o3, rfl⟩
          refine .v (.assign rfl) (.nil ?_)
          exact ⟨⟨0, v3, k3⟩, own_snoc o3, .cons rfl (.cons rfl (.cons rfl (.cons rfl (.cons rfl (.cons rfl (.cons rfl (.cons rfl (.cons rfl (.cons rfl (.nil _)))))))))), fun _ s => s.take⟩
        · rw [if_neg h9, List.append_nil]
          exact ⟨⟨0, .slice Ag gs.length cg, kg⟩, og, .cons rfl (.cons rfl (.cons rfl (.cons rfl (.cons rfl (.cons rfl (.cons rfl (.cons rfl (.cons rfl (.cons rfl (.nil _)))))))))), fun _ s => s⟩
      · rintro ⟨_, v', k'⟩ og'
        dsimp only at og' ⊢
        refine .region (.v (.move rfl) (.v (.addi rfl rfl (by omega)) (.v (.assign rfl) (.nil ?_))))
        exact ⟨⟨j + 1, v', k'⟩, ⟨hjl, og'⟩, by show R.2.length - (j + 1) < _; omega, .cons rfl (.cons rfl (.cons rfl (.cons rfl (.cons rfl (.cons rfl (.cons rfl (.cons rfl (.cons rfl (.cons rfl (.nil _)))))))))), fun _ s => s⟩
    · have hjl : j = R.2.length := by omega
      subst hjl
      rw [List.take_length, hw1] at og
      exact ⟨⟨0, v, kg⟩, og, .cons rfl (.cons rfl (.cons rfl (.cons rfl (.cons rfl (.cons rfl (.cons rfl (.cons rfl (.nil _)))))))), fun _ s => s⟩
  · rintro ⟨_, vg, kg⟩ og
    dsimp only at og ⊢
    obtain ⟨Ag, cg, rfl⟩ := OwnS.slice og
    refine .seq (.seq ((.region (.v (.move rfl) (.v (.len rfl) (.v (.move rfl) (.v (.len rfl) (.v (.no (.nei rfl rfl) (by simp)) (.v (.move rfl) (.or (b2 := decide (cm ≠ 0) && decide ((ws.length : Int) > 0)) 149 157 8 5 rfl rfl (fun g8 => .v (.fieldAddr rfl) (.v (.load (v := .int .i64 cm) rfl (.one rfl)) (.v (.nei rfl rfl) (.v (.move rfl) (.and (b2 := decide ((ws.length : Int) > 0)) 153 156 3 3 rfl rfl (fun g9 => .v (.move rfl) (.v (.len rfl) (.v (.gtr rfl rfl) (.nil ⟨rfl, rfl, rfl, rfl⟩)))) (.nil ⟨rfl, rfl, rfl, rfl⟩)))))) (.nil ?_)))))))))))
    refine .cond rfl (fun h10 => absurd h10 ?_) (fun _ => .skip ?_)
    · simp only [Bool.false_or, Bool.and_eq_true, decide_eq_true_eq]
      rintro ⟨hm, hpos⟩
      rw [(hdw hm).1] at hpos
      simp at hpos
    refine .seq ((.region (.v (.assign rfl) (.nil ?_))))
    refine .block (.loop (X := Nat) (fun j => [(2, .slice (some ⟨ba, oa, none⟩) l.length cap), (3, .pointer (some ⟨b3, 0, none⟩)), (7, .pointer (some ⟨b, 0, none⟩)), (9, .pointer (some ⟨p.b, 0, none⟩)), (11, .map (some mw)), (12, .int .i64 i), (14, .slice Aw ws.length kw), (15, .slice Ag ws.length cg), (21, .int .i64 j)])
      (fun _ => kg ++ (k ++ (M64 mw es c1 :: ((Tb b (Bc B' v1' v2') :: (k1' ++ k2')) ++ (WZ.H p wn R.1.n z' ++ [(b3, .cells [.int .i64 cc, .int .i64 cm] 51)]))))) (fun j => j ≤ ws.length) (fun j => ws.length - j) 0 (Nat.zero_le _) (.cons rfl (.cons rfl (.cons rfl (.cons rfl (.cons rfl (.cons rfl (.cons rfl (.cons rfl (.cons rfl (.nil _)))))))))) (fun _ s => s.take) ?_)
    rintro j hj
    refine .seq (.seq ((.region (.v (.move rfl) (.v (.move rfl) (.v (.len rfl) (.v (.lss rfl rfl) (.nil ?_))))))))
    refine .cond_dec rfl (fun h11 => .skip ?_) (fun h11 => .exit ?_)
    · have hjl : j < ws.length := by omega
      obtain ⟨bg, og_, lg, rfl, -, rfl, -, -, -⟩ := OwnS.some_ og (by omega)
      obtain ⟨bw, ow_, lw, rfl, -, rfl, -, -, -⟩ := OwnS.some_ ow (by omega)
      have hx : (ints .u64 ws)[j]? = some (.int .u64 ws[j]) := by simp [ints, List.getElem?_eq_getElem hjl]
      have qg := fun hs' hsub => OwnS.at1 (w0 := w) (own := []) (hs := hs') og hsub hx
      have qw := fun hs' hsub => OwnS.at1 (w0 := w) (own := []) (hs := hs') ow hsub hx
      generalize ws[j] = x at qg qw
      refine .seq (.block (.seq ((.drawK [(bg, Ch.cells lg 32), (bw, Ch.cells lw 32)] (by intro y hy; simp at hy; rcases hy with rfl | rfl <;> simp) (by kernel_rfl) (by kernel_rfl) ?_))))
      refine .v (fun _ f => .move rfl) (.v (fun _ f => .move rfl) (.v (fun _ f => .indexAddr1 rfl rfl (by omega) (by omega)) (.v (fun hs' f => .load (v := .int .u64 x) rfl (qg hs' (fun y hy => f (by simp at hy; subst hy; simp)))) (.v (fun _ f => .move rfl) (.v (fun _ f => .move rfl) (.v (fun _ f => .indexAddr1 rfl rfl (by omega) (by omega)) (.v (fun hs' f => .load (v := .int .u64 x) rfl (qw hs' (fun y hy => f (by simp at hy; subst hy; simp)))) (.v (fun _ f => .nei rfl rfl) (.nil ?_)))))))))
      refine .cond_dec rfl (fun h12 => absurd rfl h12) (fun _ => .skip ?_)
      refine .region (.v (.move rfl) (.v (.addi rfl rfl (by omega)) (.v (.assign rfl) (.nil ?_))))
      exact ⟨j + 1, hjl, by show ws.length - (j + 1) < _; omega, .cons rfl (.cons rfl (.cons rfl (.cons rfl (.cons rfl (.cons rfl (.cons rfl (.cons rfl (.cons rfl (.nil _))))))))), fun _ s => s⟩
    · refine .region (.v (.move rfl) (.v (.addi rfl rfl (by omega)) (.v (.assign rfl) (.nil ?_))))
      refine ⟨⟨i + 1, B', v1', v2', k1', k2', R.1, z', evs.foldl whoStep F, es, c1⟩, ⟨hil, ⟨hV', hdm.trans hmeet, s1', s2'⟩, ⟨hI', hB', hw2, ?_⟩, ⟨hmo, hget⟩, fun hm => (hdw hm).2⟩, by show l.length - (i + 1) < _; omega, .cons rfl (.cons rfl (.cons rfl (.cons rfl (.cons rfl (.cons rfl (.nil _)))))), fun _ s => s.take⟩
      dsimp only
      rw [hn']
      omega
end Go.Proofs.Ytcbppikkoelimaa

/- VN: slices of anything that come in: the cells of each element, and what each is read as. -/
namespace Go
namespace V
open Go.RowKit Go.ChangeShapes Go.WideShapes Go.ChangeAt
set_option linter.unusedVariables false

/-- these cells are read as 'd' -/
def TC {H : Type} (enc : TypeId × Value → H) (P : Program) (w : World) (base : Nat) (spare : Nat → Bool) (held : Bool) (t : TypeId) (cs : List Value) (d : DataW H) : Prop :=
  ∃ fuel p, DataW.trod enc P w base spare held fuel t cs = some (d, p)
section
variable {H : Type} {enc : TypeId × Value → H} {P : Program} {w : World} {base : Nat} {spare : Nat → Bool} {held : Bool}
theorem TC.of {t : TypeId} {v : Value} {cs : List Value} {d : DataW H} {p : List MemPlace} (h : DataW.Trod enc P w base spare held t v d p) (hc : v.cells = ⟨cs⟩) : TC enc P w base spare held t cs d := by
  obtain ⟨fuel, hf⟩ := h
  rw [hc] at hf
  exact ⟨fuel, p, hf⟩
theorem TC.int {t : TypeId} {k : IntKind} {cs : List Value} {d : DataW H} (ht : P.underlying t = some (.int k)) (h : TC enc P w base spare held t cs d) : ∃ n, cs = [.int k n] ∧ (Lit.int k n).wf = true := by
  obtain ⟨fuel, p, hf⟩ := h
  obtain ⟨n, h1, _, h2⟩ := DataW.trod_int ht hf
  exact ⟨n, h1, h2⟩
theorem TC.bool {t : TypeId} {cs : List Value} {d : DataW H} (ht : P.underlying t = some .bool) (h : TC enc P w base spare held t cs d) : ∃ b, cs = [.bool b] := by
  obtain ⟨fuel, p, hf⟩ := h
  obtain ⟨b, h1, _⟩ := DataW.trod_bool ht hf
  exact ⟨b, h1⟩
theorem TC.plain {t : TypeId} {cs : List Value} {d : DataW H} {ls : List Lf} (hl : leaves P 8 t = some ls) (hs : P.cellsOf t = ls.length) (h : TC enc P w base spare held t cs d) : okw ls cs := by
  obtain ⟨fuel, p, hf⟩ := h
  exact trod_plain 8 t ls fuel cs _ hl hs hf
/-- a struct's fields -/
theorem TC.struct {t : TypeId} {fs : Array Field} {cs : List Value} {d : DataW H} (ht : P.underlying t = some (.struct fs)) (h : TC enc P w base spare held t cs d) :
    ∃ ds, d = .agg ds ∧ ds.length = fs.size ∧ cs.length = P.cellsOf t ∧ ∀ (i : Nat) (f : Field) (di : DataW H), fs[i]? = some f → ds[i]? = some di → TC enc P w base spare held f.type ((cs.drop f.offset).take (P.cellsOf f.type)) di := by
  obtain ⟨fuel, p, hf⟩ := h
  obtain ⟨xs, n, _, hx, hl, hn, hf⟩ := DataW.trod_struct ht hf
  simp only [Prod.mk.injEq] at hx
  refine ⟨xs.map (·.1), hx.1, by simpa using hn, hl, fun i f di h1 h2 => ?_⟩
  have := hf i f h1
  rw [List.getElem?_map] at h2
  cases h3 : xs[i]? with
  | none => rw [h3] at h2; cases h2
  | some x =>
    rw [h3] at h2 this
    simp at h2
    exact ⟨n, x.2, by rw [this, ← h2]⟩
/-- a slice's elements -/
theorem TC.slice {t e m : Nat} {cs : List Value} {d : DataW H} (ht : P.underlying t = some (.slice e)) (hm : P.cellsOf e = m) (h0 : 0 < m) (h : TC enc P w base spare held t cs d) :
    ∃ A len cap, ∃ (css : List (List Value)) (ds : List (DataW H)), cs = [.slice A len cap] ∧ css.length = len ∧ ds.length = len ∧ (∀ c ∈ css, c.length = m) ∧ (∀ (i : Nat) (c : List Value), css[i]? = some c → ∀ (j : Nat) (v : Value), c[j]? = some v → ∃ b o, A = some ⟨b, o, none⟩ ∧ w.cell? ⟨b, o + (i * m + j), none⟩ = some v) ∧
      (d = .nil ∧ len = 0 ∨ ∃ sp, d = .slice ds sp) ∧ ∀ (i : Nat) (c : List Value) (di : DataW H), css[i]? = some c → ds[i]? = some di → TC enc P w base spare held e c di := by
  obtain ⟨fuel, p, hf⟩ := h
  rcases DataW.trod_slice ht hf with ⟨rfl, hx⟩ | ⟨a, len, cap, elems, rest, n, _, rfl, hx, hb, hl, hc, hn, he, _⟩
  · simp only [Prod.mk.injEq] at hx
    exact ⟨none, 0, 0, [], [], rfl, rfl, rfl, by simp, by simp, .inl ⟨hx.1, rfl⟩, by simp⟩
  · simp only [Prod.mk.injEq] at hx
    rw [hm] at he
    have each : ∀ i, i < len → ∃ c x, w.cells? base (a.add (i * m)) m = some c ∧ DataW.trod enc P w base spare held n e c = some x ∧ elems[i]? = some x := by
      intro i hi
      have := he i hi
      rw [List.getElem?_eq_getElem (by omega)] at this
      obtain ⟨c, h1, h2⟩ := Option.bind_eq_some_iff.1 this
      exact ⟨c, _, h1, h2, List.getElem?_eq_getElem (by omega)⟩
    have hcs : ∃ css : List (List Value), css.length = len ∧ ∀ i c, css[i]? = some c → ∃ x, w.cells? base (a.add (i * m)) m = some c ∧ DataW.trod enc P w base spare held n e c = some x ∧ elems[i]? = some x := by
      have key : ∀ k, k ≤ len → ∃ css : List (List Value), css.length = k ∧ ∀ i c, css[i]? = some c → ∃ x, w.cells? base (a.add (i * m)) m = some c ∧ DataW.trod enc P w base spare held n e c = some x ∧ elems[i]? = some x := by
        intro k
        induction k with
        | zero => intro _; exact ⟨[], rfl, by simp⟩
        | succ k ih =>
          intro hk
          obtain ⟨css, h1, h2⟩ := ih (by omega)
          obtain ⟨c, x, h3⟩ := each k (by omega)
          refine ⟨css ++ [c], by simp [h1], fun i c' hc' => ?_⟩
          by_cases hi : i < k
          · rw [List.getElem?_append_left (by omega)] at hc'
            exact h2 i c' hc'
          · rw [List.getElem?_append_right (by omega)] at hc'
            have hik : i = k := by
              have := (List.getElem?_eq_some_iff.1 hc').1
              simp at this; omega
            subst hik
            simp [h1] at hc'
            subst hc'
            exact ⟨x, h3⟩
      exact key len (Nat.le_refl _)
    obtain ⟨css, h1, h2⟩ := hcs
    refine ⟨some a, len, cap, css, elems.map (·.1), rfl, h1, by simpa using hn, fun c hc => ?_, fun i c hc j v hv => ?_, .inr ⟨_, hx.1⟩, fun i c di hc hdi => ?_⟩
    · obtain ⟨i, hi⟩ := List.mem_iff_getElem?.1 hc
      obtain ⟨x, h3, _⟩ := h2 i c hi
      exact (World.cells?_some h3).2.1
    · obtain ⟨x, h3, _⟩ := h2 i c hc
      obtain ⟨g1, g2, g3⟩ := World.cells?_some h3
      have hj := (List.getElem?_eq_some_iff.1 hv).1
      have hcell := g3 j (by omega)
      rw [hv] at hcell
      obtain ⟨b, o, sp⟩ := a
      have hsp : sp = none := by
        have hlt : 0 < css.length := by
          have := (List.getElem?_eq_some_iff.1 hc).1
          omega
        obtain ⟨x0, k3, _⟩ := h2 0 css[0] (List.getElem?_eq_getElem hlt)
        obtain ⟨_, k2, k4⟩ := World.cells?_some k3
        have := k4 0 h0
        rw [List.getElem?_eq_getElem (by omega)] at this
        simpa [Addr.add] using World.cell?_spot this
      subst hsp
      refine ⟨b, o, rfl, ?_⟩
      rw [add_none, add_none, Nat.add_assoc] at hcell
      exact hcell
    · obtain ⟨x, h3, h4, h5⟩ := h2 i c hc
      rw [List.getElem?_map, h5] at hdi
      simp at hdi
      exact ⟨n, x.2, by rw [h4, ← hdi]⟩
end
/-- one for each number below n -/
theorem list_of {α : Type} {Q : Nat → α → Prop} (n : Nat) (h : ∀ i, i < n → ∃ x, Q i x) : ∃ l : List α, l.length = n ∧ ∀ (i : Nat) (x : α), l[i]? = some x → Q i x := by
  induction n with
  | zero => exact ⟨[], rfl, by simp⟩
  | succ n ih =>
    obtain ⟨l, h1, h2⟩ := ih fun i hi => h i (by omega)
    obtain ⟨x, hx⟩ := h n (by omega)
    refine ⟨l ++ [x], by simp [h1], fun i y hy => ?_⟩
    by_cases hi : i < n
    · rw [List.getElem?_append_left (by omega)] at hy
      exact h2 i y hy
    · rw [List.getElem?_append_right (by omega)] at hy
      have hlt := (List.getElem?_eq_some_iff.1 hy).1
      simp at hlt
      have : i = n := by omega
      subst this
      simp [h1] at hy
      subst hy
      exact hx
section
variable {H : Type} {enc : TypeId × Value → H} {P : Program} {w : World} {base : Nat} {spare : Nat → Bool} {held : Bool}
/-- bytes -/
theorem TC.bytes {t e : Nat} {cs : List Value} {d : DataW H} (ht : P.underlying t = some (.slice e)) (he : P.underlying e = some (.int .u8)) (hm : P.cellsOf e = 1) (h : TC enc P w base spare held t cs d) :
    ∃ A c ys, cs = [.slice A (List.length ys) c] ∧ Rd w [] A (byts ys) ∧ (d = .nil ∧ ys = [] ∨ ∃ ds sp, d = .slice ds sp ∧ ds.length = ys.length) := by
  obtain ⟨A, len, cap, css, ds, h1, h2, h3, h4, h5, h6, h7⟩ := h.slice ht hm (by omega)
  obtain ⟨ys, hy1, hy2⟩ := list_of (Q := fun i (y : BitVec 8) => css[i]? = some [.int .u8 y.toNat]) len (fun i hi => by
    have hc := List.getElem?_eq_getElem (show i < css.length by omega)
    have hd := List.getElem?_eq_getElem (show i < ds.length by omega)
    obtain ⟨n, hn, hw⟩ := (h7 i _ _ hc hd).int he
    have := wf_u8 hw
    refine ⟨BitVec.ofNat 8 n.toNat, ?_⟩
    rw [hc, hn]
    simp
    omega)
  refine ⟨A, cap, ys, by rw [h1, hy1], fun j v hv => ?_, ?_⟩
  · have hj : j < ys.length := by have := (List.getElem?_eq_some_iff.1 hv).1; simpa [byts_length] using this
    rw [byts_get hj] at hv
    have h8 := hy2 j _ (List.getElem?_eq_getElem hj)
    obtain ⟨b, o, e1, e2⟩ := h5 j _ h8 0 v (by simpa using hv)
    exact ⟨b, o, e1, by simp, by simpa using e2⟩
  · rcases h6 with ⟨e1, e2⟩ | ⟨sp, e1⟩
    · exact .inl ⟨e1, List.eq_nil_of_length_eq_zero (by omega)⟩
    · exact .inr ⟨ds, sp, e1, by omega⟩
end
end V
end Go

/- VT: lists of plain records that come in; what their lengths are held to. -/
namespace Go
namespace V
open Go.RowKit Go.ChangeShapes Go.WideShapes Go.ChangeAt
set_option linter.unusedVariables false

theorem flatten_get {m : Nat} : ∀ (rs : List (List Value)), (∀ r ∈ rs, r.length = m) → ∀ (k : Nat) (v : Value), rs.flatten[k]? = some v → ∃ i j r, rs[i]? = some r ∧ r[j]? = some v ∧ k = i * m + j
  | [], _, k, v, h => by simp at h
  | r :: rs, hm, k, v, h => by
    rw [List.flatten_cons] at h
    by_cases hk : k < r.length
    · rw [List.getElem?_append_left hk] at h
      exact ⟨0, k, r, rfl, h, by simp⟩
    · rw [List.getElem?_append_right (by omega)] at h
      obtain ⟨i, j, r', h1, h2, h3⟩ := flatten_get rs (fun r hr => hm r (List.mem_cons_of_mem _ hr)) _ v h
      have := hm r List.mem_cons_self
      exact ⟨i + 1, j, r', by simpa using h1, h2, by rw [Nat.succ_mul]; omega⟩
theorem map_of {α β : Type} {f : α → β} {Q : α → Prop} : ∀ (rs : List β), (∀ r ∈ rs, ∃ x, r = f x ∧ Q x) → ∃ l : List α, rs = l.map f ∧ ∀ x ∈ l, Q x
  | [], _ => ⟨[], rfl, by simp⟩
  | r :: rs, h => by
    obtain ⟨x, h1, h2⟩ := h r List.mem_cons_self
    obtain ⟨l, h3, h4⟩ := map_of rs fun r hr => h r (List.mem_cons_of_mem _ hr)
    exact ⟨x :: l, by simp [h1, h3], fun y hy => by rcases List.mem_cons.1 hy with rfl | hy; exact h2; exact h4 y hy⟩
theorem okw_length : ∀ {ls : List Lf} {cs : List Value}, okw ls cs → cs.length = ls.length
  | [], [], _ => rfl
  | l :: ls, c :: cs, h => by have := okw_length h.2; simp [this]
  | [], _ :: _, h => h.elim
  | _ :: _, [], h => h.elim
section
variable {H : Type} {enc : TypeId × Value → H} {P : Program} {w : World} {base : Nat} {spare : Nat → Bool} {held : Bool}
/-- a slice of plain records -/
theorem TC.recs {t e : Nat} {ls : List Lf} {cs : List Value} {d : DataW H} (ht : P.underlying t = some (.slice e)) (hl : leaves P 8 e = some ls) (hs : P.cellsOf e = ls.length) (h0 : 0 < ls.length) (h : TC enc P w base spare held t cs d) :
    ∃ A cap, ∃ rs : List (List Value), cs = [.slice A rs.length cap] ∧ (∀ r ∈ rs, okw ls r) ∧ Rd w [] A rs.flatten ∧ (d = .nil ∧ rs = [] ∨ ∃ ds sp, d = .slice ds sp ∧ ds.length = rs.length) := by
  obtain ⟨A, len, cap, css, ds, h1, h2, h3, h4, h5, h6, h7⟩ := h.slice ht hs h0
  refine ⟨A, cap, css, by rw [h1, h2], fun r hr => ?_, fun k v hv => ?_, ?_⟩
  · obtain ⟨i, hi, rfl⟩ := List.mem_iff_getElem.1 hr
    exact (h7 i _ _ (List.getElem?_eq_getElem hi) (List.getElem?_eq_getElem (by omega))).plain hl hs
  · obtain ⟨i, j, r, e1, e2, rfl⟩ := flatten_get css h4 k v hv
    obtain ⟨b, o, e3, e4⟩ := h5 i r e1 j v e2
    exact ⟨b, o, e3, by simp, e4⟩
  · rcases h6 with ⟨e1, e2⟩ | ⟨sp, e1⟩
    · exact .inl ⟨e1, List.eq_nil_of_length_eq_zero (by omega)⟩
    · exact .inr ⟨ds, sp, e1, by omega⟩
/-- the weights of a struct's parts -/
theorem sized_agg {ts : List TypeId} {ds : List (DataW H)} (h : (DataW.weightsEach P ts ds).all (· ≤ reachBytes) = true) {j : Nat} {t : TypeId} {fs : Array Field} {parts : List (DataW H)} (ht : ts[j]? = some t) (hd : ds[j]? = some (.agg parts)) (hu : P.underlying t = some (.struct fs)) :
    (DataW.weightsEach P (fs.toList.map (·.type)) parts).all (· ≤ reachBytes) = true := by
  rw [List.all_eq_true]
  intro x hx
  exact List.all_eq_true.1 h _ (DataW.weights_mem_each ht hd x (by simp only [DataW.weights, hu]; exact hx))
theorem sized_len {ts : List TypeId} {ds : List (DataW H)} (h : (DataW.weightsEach P ts ds).all (· ≤ reachBytes) = true) {j n : Nat} {t e : TypeId} {d : DataW H} (ht : ts[j]? = some t) (hd : ds[j]? = some d) (hu : P.underlying t = some (.slice e))
    (hk : d = .nil ∧ n = 0 ∨ ∃ es sp, d = .slice es sp ∧ es.length = n) : n * P.bytesOf e ≤ reachBytes := by
  rcases hk with ⟨_, rfl⟩ | ⟨es, sp, rfl, rfl⟩
  · simp
  · have := sized_slice h ht hd hu
    have h2 : es.length * P.bytesOf e ≤ (es.length + sp.length) * P.bytesOf e := Nat.mul_le_mul_right _ (by omega)
    omega
end
end V
end Go

/- VB: slices that come in: they have room for what they hold. -/
namespace Go
namespace V
open Go.RowKit Go.ChangeShapes Go.WideShapes
set_option linter.unusedVariables false
set_option linter.unusedSimpArgs false
section
variable {P : Program} {H : Type} {enc : TypeId × Value → H} {w : World} {base : Nat} {spare : Nat → Bool} {held : Bool}
theorem TC.cap {t e len cap : Nat} {A : Option Addr} {d : DataW H} (ht : P.underlying t = some (.slice e)) (h : TC enc P w base spare held t [.slice A len cap] d) : len ≤ cap := by
  obtain ⟨fuel, p, hf⟩ := h
  rcases DataW.trod_slice ht hf with ⟨e1, hx⟩ | ⟨a, len', cap', elems, rest, n, _, e1, hx, hb, hl, hc, hn, he, _⟩
  · simp at e1; omega
  · simp at e1
    obtain ⟨rfl, rfl, rfl⟩ := e1
    omega
/-- a slice of plain records, with its room -/
theorem TC.recsK {t e : Nat} {ls : List Lf} {cs : List Value} {d : DataW H} (ht : P.underlying t = some (.slice e)) (hl : leaves P 8 e = some ls) (hs : P.cellsOf e = ls.length) (h0 : 0 < ls.length) (h : TC enc P w base spare held t cs d) :
    ∃ A cap, ∃ rs : List (List Value), cs = [.slice A rs.length cap] ∧ (∀ r ∈ rs, okw ls r) ∧ Rd w [] A rs.flatten ∧ rs.length ≤ cap ∧ (d = .nil ∧ rs = [] ∨ ∃ ds sp, d = .slice ds sp ∧ ds.length = rs.length) := by
  obtain ⟨A, cap, rs, rfl, h2, h3, h4⟩ := h.recs ht hl hs h0
  exact ⟨A, cap, rs, rfl, h2, h3, TC.cap ht h, h4⟩
end
theorem okw_i {k : IntKind} {ls : List Lf} {cs : List Value} (h : okw (.i k :: ls) cs) : ∃ a cs', cs = .int k a :: cs' ∧ (Lit.int k a).wf = true ∧ okw ls cs' := by
  match cs, h with
  | .int _ a :: cs', ⟨⟨h1, w1⟩, h2⟩ => subst h1; exact ⟨a, cs', rfl, w1, h2⟩
theorem okw_b {ls : List Lf} {cs : List Value} (h : okw (.b :: ls) cs) : ∃ a cs', cs = .bool a :: cs' ∧ okw ls cs' := by
  match cs, h with
  | .bool a :: cs', ⟨h1, h2⟩ => exact ⟨a, cs', rfl, h2⟩
theorem okw_nil {cs : List Value} (h : okw [] cs) : cs = [] := by
  match cs, h with
  | [], _ => rfl
end V
end Go

/- How many values arguments hold; slices of records as they come in. -/
namespace Go.Proofs.Ytcbppikkoelimaa
open Go.V Go.ChangeShapes Go.WideShapes Go.ChangeAt
set_option linter.unusedVariables false
set_option linter.unusedSimpArgs false

theorem bulk_pos {H : Type} (d : DataW H) : 1 ≤ Rows.uptoBulk d := by
  cases d with
  | lit l => cases l <;> simp [Rows.uptoBulk]
  | _ => simp [Rows.uptoBulk]
theorem bulk_len {H : Type} : ∀ (ds : List (DataW H)), ds.length ≤ Rows.uptoBulkAll ds
  | [] => by simp
  | d :: ds => by
    have h1 := bulk_pos d
    have h2 := bulk_len ds
    simp only [Rows.uptoBulkAll, List.length_cons]
    omega
theorem bulk_get {H : Type} : ∀ {ds : List (DataW H)} {i : Nat} {d : DataW H}, ds[i]? = some d → Rows.uptoBulk d ≤ Rows.uptoBulkAll ds
  | d' :: ds, 0, d, h => by simp at h; subst h; simp [Rows.uptoBulkAll]
  | d' :: ds, i + 1, d, h => by
    have := bulk_get (ds := ds) (i := i) (by simpa using h)
    simp only [Rows.uptoBulkAll]
    omega
  | [], i, d, h => by simp at h
theorem bulk_sum {H α : Type} (f : α → Nat) : ∀ {ds : List (DataW H)} {l : List α}, l.length = ds.length → (∀ (i : Nat) (x : α) (d : DataW H), l[i]? = some x → ds[i]? = some d → f x ≤ Rows.uptoBulk d) → (l.map f).sum ≤ Rows.uptoBulkAll ds
  | [], [], _, _ => by simp
  | d :: ds, x :: l, h, k => by
    have h1 := k 0 x d rfl rfl
    have h2 := bulk_sum f (ds := ds) (l := l) (by simpa using h) (fun i x d hx hd => k (i + 1) x d (by simpa using hx) (by simpa using hd))
    simp only [List.map_cons, List.sum_cons, Rows.uptoBulkAll]
    omega
  | [], _ :: _, h, _ => by simp at h
  | _ :: _, [], h, _ => by simp at h
section
variable {P : Program} {H : Type} {enc : TypeId × Value → H} {w : World} {base : Nat} {spare : Nat → Bool} {held : Bool}
/-- plain records -/
theorem TC.list {α : Type} (f : α → List Value) (Q : α → Prop) {t e : Nat} {ls : List Lf} {cs : List Value} {d : DataW H} (ht : P.underlying t = some (.slice e)) (hl : leaves P 8 e = some ls) (hs : P.cellsOf e = ls.length) (h0 : 0 < ls.length)
    (hf : ∀ r, okw ls r → ∃ x, r = f x ∧ Q x) (h : TC enc P w base spare held t cs d) :
    ∃ A cap, ∃ l : List α, cs = [.slice A l.length cap] ∧ (∀ x ∈ l, Q x) ∧ Rd w [] A (l.flatMap f) ∧ l.length ≤ cap ∧ l.length ≤ Rows.uptoBulk d := by
  obtain ⟨A, cap, rs, rfl, h2, h3, h5, h4⟩ := TC.recsK ht hl hs h0 h
  obtain ⟨l, rfl, hl⟩ := map_of (f := f) (Q := Q) rs fun r hr => hf r (h2 r hr)
  refine ⟨A, cap, l, by rw [List.length_map], hl, by rw [List.flatMap_def]; exact h3, by simpa using h5, ?_⟩
  rcases h4 with ⟨e1, e2⟩ | ⟨ds, sp, rfl, e2⟩
  · have : l = [] := by simpa using e2
    subst this; simp
  · have := bulk_len ds
    simp only [Rows.uptoBulk]
    rw [List.length_map] at e2
    omega
/-- records of whatever -/
theorem TC.listN {α : Type} (f : α → List Value) (Q : α → DataW H → Prop) {t e m : Nat} {cs : List Value} {d : DataW H} (ht : P.underlying t = some (.slice e)) (hm : P.cellsOf e = m) (h0 : 0 < m)
    (hf : ∀ c di, TC enc P w base spare held e c di → ∃ x, c = f x ∧ Q x di) (h : TC enc P w base spare held t cs d) :
    ∃ A cap, ∃ l : List α, cs = [.slice A l.length cap] ∧ Rd w [] A (l.flatMap f) ∧ l.length ≤ cap ∧ l.length ≤ Rows.uptoBulk d ∧ (∀ x ∈ l, ∃ di, Q x di ∧ Rows.uptoBulk di ≤ Rows.uptoBulk d) ∧
      ∀ g : α → Nat, (∀ x di, Q x di → g x ≤ Rows.uptoBulk di) → (l.map g).sum ≤ Rows.uptoBulk d := by
  obtain ⟨A, len, cap, css, ds, rfl, h2, h3, h4, h5, h6, h7⟩ := TC.slice ht hm h0 h
  have hcap := TC.cap ht h
  obtain ⟨l, hl1, hl2⟩ := list_of (Q := fun i (x : α) => css[i]? = some (f x) ∧ ∃ di, ds[i]? = some di ∧ Q x di) len (fun i hi => by
    have hc := List.getElem?_eq_getElem (show i < css.length by omega)
    have hd := List.getElem?_eq_getElem (show i < ds.length by omega)
    obtain ⟨x, e1, e2⟩ := hf _ _ (h7 i _ _ hc hd)
    exact ⟨x, by rw [hc, e1], _, hd, e2⟩)
  have hcss : css = l.map f := by
    apply List.ext_getElem?
    intro i
    by_cases hi : i < len
    · have hx := List.getElem?_eq_getElem (show i < l.length by omega)
      rw [(hl2 i _ hx).1, List.getElem?_map, hx]; rfl
    · rw [List.getElem?_eq_none (by omega), List.getElem?_eq_none (by simp; omega)]
  have hb : ∀ di ∈ ds, Rows.uptoBulk di ≤ Rows.uptoBulk d := by
    intro di hdi
    rcases h6 with ⟨_, e2⟩ | ⟨sp, rfl⟩
    · have : ds = [] := List.eq_nil_of_length_eq_zero (by omega)
      subst this; cases hdi
    · obtain ⟨i, hi, rfl⟩ := List.mem_iff_getElem.1 hdi
      have := bulk_get (List.getElem?_eq_getElem hi)
      simp only [Rows.uptoBulk]
      omega
  refine ⟨A, cap, l, by rw [hl1], fun k v hv => ?_, by omega, ?_, fun x hx => ?_, fun g hg => ?_⟩
  · rw [List.flatMap_def, ← hcss] at hv
    obtain ⟨i, j, r, e1, e2, rfl⟩ := flatten_get css h4 k v hv
    obtain ⟨b, o, e3, e4⟩ := h5 i r e1 j v e2
    exact ⟨b, o, e3, by simp, e4⟩
  · rcases h6 with ⟨_, e2⟩ | ⟨sp, rfl⟩
    · have := bulk_pos d; omega
    · have := bulk_len ds
      simp only [Rows.uptoBulk]
      omega
  · obtain ⟨i, hi, rfl⟩ := List.mem_iff_getElem.1 hx
    obtain ⟨-, di, hdi, hq⟩ := hl2 i _ (List.getElem?_eq_getElem hi)
    exact ⟨di, hq, hb _ (List.mem_of_getElem? hdi)⟩
  · rcases h6 with ⟨_, e2⟩ | ⟨sp, rfl⟩
    · have : l = [] := List.eq_nil_of_length_eq_zero (by omega)
      subst this; simp
    · have := bulk_sum g (ds := ds) (l := l) (by omega) (fun i x di hx hdi => by
        obtain ⟨-, di', hdi', hq⟩ := hl2 i x hx
        rw [hdi] at hdi'; cases hdi'
        exact hg x di hq)
      simp only [Rows.uptoBulk]
      omega
end
end Go.Proofs.Ytcbppikkoelimaa

/- A watch's settings and what was said, as they come in. -/
namespace Go.Proofs.Ytcbppikkoelimaa
open Go.V Go.ChangeShapes Go.WideShapes Go.ChangeAt
set_option linter.unusedVariables false
set_option linter.unusedSimpArgs false

theorem okw_wn {cs : List Value} (h : okw [.i .i64, .i .i64, .i .i64, .i .i64, .i .i64] cs) : ∃ v : Wn, cs = v.cells := by
  match cs, h with
  | [.int _ a, .int _ b, .int _ c, .int _ d, .int _ e], ⟨⟨h1, _⟩, ⟨h2, _⟩, ⟨h3, _⟩, ⟨h4, _⟩, ⟨h5, _⟩, _⟩ =>
    subst h1; subst h2; subst h3; subst h4; subst h5; exact ⟨⟨a, b, c, d, e⟩, rfl⟩
abbrev SVL : List Lf := [.i .u64, .i .i64, .i .u64, .i .u64, .i .u64, .i .u32, .i .i64, .i .i64, .i .i64, .i .u64, .i .u64, .i .i64, .i .i64]
theorem okw_sev {cs : List Value} (h : okw SVL cs) : ∃ v : Ev, cs = v.cells ∧ True := by
  obtain ⟨a, cs, rfl, w1, h⟩ := okw_i h
  obtain ⟨b, cs, rfl, w2, h⟩ := okw_i h
  obtain ⟨c, cs, rfl, w3, h⟩ := okw_i h
  obtain ⟨d, cs, rfl, w4, h⟩ := okw_i h
  obtain ⟨e, cs, rfl, w5, h⟩ := okw_i h
  obtain ⟨f, cs, rfl, w6, h⟩ := okw_i h
  obtain ⟨g, cs, rfl, w7, h⟩ := okw_i h
  obtain ⟨i, cs, rfl, w8, h⟩ := okw_i h
  obtain ⟨j, cs, rfl, w9, h⟩ := okw_i h
  obtain ⟨k, cs, rfl, w10, h⟩ := okw_i h
  obtain ⟨l, cs, rfl, w11, h⟩ := okw_i h
  obtain ⟨m, cs, rfl, w12, h⟩ := okw_i h
  obtain ⟨n, cs, rfl, w13, h⟩ := okw_i h
  have := okw_nil h
  subst this
  exact ⟨⟨a, b, c, d, e, f, g, i, j, k, l, m, n⟩, rfl, trivial⟩
section
variable {H : Type} {enc : TypeId × Value → H} {w : World} {base : Nat} {spare : Nat → Bool} {held : Bool}
set_option maxRecDepth 20000 in
theorem read_evs {cs : List Value} {d : DataW H} (h : TC enc Try.prog w base spare held 24 cs d) :
    ∃ A cap, ∃ l : List Ev, cs = [.slice A l.length cap] ∧ Rd w [] A (erows l) ∧ l.length ≤ Rows.uptoBulk d := by
  have hz2 : Try.prog.cellsOf 24 = 1 := by kernel_rfl
  obtain ⟨A, cap, l, g, -, r, k, n⟩ := TC.list Ev.cells (fun _ => True) (ls := SVL) (e := 34) (by kernel_rfl) (by kernel_rfl) (by kernel_rfl) (by decide) (fun r hr => okw_sev hr) h
  exact ⟨A, cap, l, by simpa [hz2] using g, r, n⟩
set_option maxRecDepth 20000 in
theorem read_evsC {cs : List Value} {d : DataW H} (h : TC enc Try.prog w base spare held 24 cs d) :
    ∃ A cap, ∃ l : List Ev, cs = [.slice A l.length cap] ∧ Rd w [] A (erows l) ∧ l.length ≤ cap ∧ l.length ≤ Rows.uptoBulk d := by
  have hz2 : Try.prog.cellsOf 24 = 1 := by kernel_rfl
  obtain ⟨A, cap, l, g, -, r, k, n⟩ := TC.list Ev.cells (fun _ => True) (ls := SVL) (e := 34) (by kernel_rfl) (by kernel_rfl) (by kernel_rfl) (by decide) (fun r hr => okw_sev hr) h
  exact ⟨A, cap, l, by simpa [hz2] using g, r, k, n⟩
end
end Go.Proofs.Ytcbppikkoelimaa

/- Commands and books as they come in. -/
namespace Go.Proofs.Ytcbppikkoelimaa
open Go.V Go.ChangeShapes Go.WideShapes Go.ChangeAt
set_option linter.unusedVariables false
set_option linter.unusedSimpArgs false

def I64 (x : Int) : Prop := -9223372036854775808 ≤ x ∧ x ≤ 9223372036854775807
def U32 (x : Int) : Prop := 0 ≤ x ∧ x ≤ 4294967295
theorem wf_i64 {n : Int} (h : (Lit.int .i64 n).wf = true) : I64 n := by
  simp [Lit.wf, IntKind.min, IntKind.max, IntKind.bits, IntKind.signed] at h; unfold I64; omega
theorem wf_u64 {n : Int} (h : (Lit.int .u64 n).wf = true) : U n := by
  simp [Lit.wf, IntKind.min, IntKind.max, IntKind.bits, IntKind.signed] at h; unfold U; omega
theorem wf_u32 {n : Int} (h : (Lit.int .u32 n).wf = true) : U32 n := by
  simp [Lit.wf, IntKind.min, IntKind.max, IntKind.bits, IntKind.signed] at h; unfold U32; omega
/-- an order's fields are in their kinds -/
def Ord.ok (o : Ord) : Prop := U o.id ∧ U32 o.mb ∧ I64 o.ty ∧ I64 o.pr ∧ U o.v ∧ U o.hd ∧ U o.pk
theorem Ord.ok.wf {o : Ord} (h : o.ok) : o.wf := ⟨h.1, h.2.2.2.2.1, h.2.2.2.2.2.1, h.2.2.2.2.2.2⟩
theorem okw_ord {cs : List Value} (h : okw OL cs) : ∃ o : Ord, cs = o.cells ∧ o.ok := by
  match cs, h with
  | [.int _ a, .int _ b, .int _ c, .int _ d, .int _ e, .int _ f, .int _ g], ⟨⟨h1, w1⟩, ⟨h2, w2⟩, ⟨h3, w3⟩, ⟨h4, w4⟩, ⟨h5, w5⟩, ⟨h6, w6⟩, ⟨h7, w7⟩, _⟩ =>
    subst h1; subst h2; subst h3; subst h4; subst h5; subst h6; subst h7
    exact ⟨⟨a, b, c, d, e, f, g⟩, rfl, wf_u64 w1, wf_u32 w2, wf_i64 w3, wf_i64 w4, wf_u64 w5, wf_u64 w6, wf_u64 w7⟩
abbrev CL : List Lf := [.i .i64, .i .u64, .i .u64, .i .u32, .i .i64, .i .i64, .i .i64, .i .u64, .i .u64]
def Cmd (k id tg mb sd ty pr q pk : Int) : Prop := I64 k ∧ U id ∧ U tg ∧ U32 mb ∧ I64 sd ∧ I64 ty ∧ I64 pr ∧ U q ∧ U pk
theorem okw_cmd {cs : List Value} (h : okw CL cs) : ∃ k id tg mb sd ty pr q pk, cs = ccells k id tg mb sd ty pr q pk ∧ Cmd k id tg mb sd ty pr q pk := by
  match cs, h with
  | [.int _ a, .int _ b, .int _ c, .int _ d, .int _ e, .int _ f, .int _ g, .int _ i, .int _ j], ⟨⟨h1, w1⟩, ⟨h2, w2⟩, ⟨h3, w3⟩, ⟨h4, w4⟩, ⟨h5, w5⟩, ⟨h6, w6⟩, ⟨h7, w7⟩, ⟨h8, w8⟩, ⟨h9, w9⟩, _⟩ =>
    subst h1; subst h2; subst h3; subst h4; subst h5; subst h6; subst h7; subst h8; subst h9
    exact ⟨a, b, c, d, e, f, g, i, j, rfl, wf_i64 w1, wf_u64 w2, wf_u64 w3, wf_u32 w4, wf_i64 w5, wf_i64 w6, wf_i64 w7, wf_u64 w8, wf_u64 w9⟩
/-- a side, as it comes in -/
def Len {H : Type} (d : DataW H) (n : Nat) : Prop := d = .nil ∧ n = 0 ∨ ∃ es sp, d = .slice es sp ∧ es.length = n
section
variable {H : Type} {enc : TypeId × Value → H} {w : World} {base : Nat} {spare : Nat → Bool} {held : Bool}
theorem TC.side {cs : List Value} {d : DataW H} (h : TC enc Try.prog w base spare held 85 cs d) :
    ∃ A c, ∃ l : List Ord, cs = [.slice A l.length c] ∧ Rd w [] A (rows l) ∧ (∀ o ∈ l, o.ok) ∧ Len d l.length := by
  obtain ⟨A, c, rs, h1, h2, h3, h4⟩ := h.recs (e := 97) (ls := OL) (by kernel_rfl) (by kernel_rfl) (by kernel_rfl) (by decide)
  obtain ⟨l, rfl, hl⟩ := map_of (f := Ord.cells) (Q := Ord.ok) rs fun r hr => okw_ord (h2 r hr)
  refine ⟨A, c, l, by rw [h1, List.length_map], by rw [rows, List.flatMap_def]; exact h3, hl, ?_⟩
  rcases h4 with ⟨e1, e2⟩ | ⟨ds, sp, e1, e2⟩
  · exact .inl ⟨e1, by simpa using e2⟩
  · exact .inr ⟨ds, sp, e1, by simpa using e2⟩
set_option maxRecDepth 20000 in
theorem read_book {cs : List Value} {d : DataW H} (h : TC enc Try.prog w base spare held 87 cs d) :
    ∃ cap meet A1 c1 A2 c2 high seq, ∃ bs ss : List Ord, cs = bcells cap meet (.slice A1 bs.length c1) (.slice A2 ss.length c2) high seq ∧ I64 cap ∧ I64 meet ∧ U high ∧ U seq ∧ Rd w [] A1 (rows bs) ∧ Rd w [] A2 (rows ss) ∧ (∀ o ∈ bs ++ ss, o.ok) ∧
      ∃ dc d1 d2 dh dq, d = .agg [dc, d1, d2, dh, dq] ∧ Len d1 bs.length ∧ Len d2 ss.length := by
  obtain ⟨ds, rfl, hn, hl, hf⟩ := h.struct Try.underlying87
  match ds, hn with
  | [dc, d1, d2, dh, dq], _ =>
  match cs, hl with
  | [x0, x1, x2, x3, x4, x5], _ =>
  have f0 := (hf 0 _ dc rfl rfl).plain (ls := [.i .i64, .i .i64]) (by kernel_rfl) (by kernel_rfl)
  obtain ⟨A1, c1, bs, e1, r1, o1, n1⟩ := TC.side (hf 1 _ d1 rfl rfl)
  obtain ⟨A2, c2, ss, e2, r2, o2, n2⟩ := TC.side (hf 2 _ d2 rfl rfl)
  obtain ⟨high, e3, w3⟩ := (hf 3 _ dh rfl rfl).int (k := .u64) (by kernel_rfl)
  obtain ⟨seq, e4, w4⟩ := (hf 4 _ dq rfl rfl).int (k := .u64) (by kernel_rfl)
  have z2 : Try.prog.cellsOf 51 = 2 := by kernel_rfl
  have z1 : Try.prog.cellsOf 85 = 1 := by kernel_rfl
  have zu : Try.prog.cellsOf 32 = 1 := by kernel_rfl
  have g0 : okw [.i .i64, .i .i64] [x0, x1] := by simpa [z2] using f0
  have g1 : x2 = .slice A1 bs.length c1 := by simpa [z1] using e1
  have g2 : x3 = .slice A2 ss.length c2 := by simpa [z1] using e2
  have g3 : x4 = .int .u64 high := by simpa [zu] using e3
  have g4 : x5 = .int .u64 seq := by simpa [zu] using e4
  match x0, x1, g0 with
  | .int _ cap, .int _ meet, ⟨⟨p1, w1⟩, ⟨p2, w2⟩, _⟩ =>
    subst p1; subst p2; subst g1; subst g2; subst g3; subst g4
    exact ⟨cap, meet, A1, c1, A2, c2, high, seq, bs, ss, rfl, wf_i64 w1, wf_i64 w2, wf_u64 w3, wf_u64 w4, r1, r2, fun o ho => by rcases List.mem_append.1 ho with ho | ho; exact o1 o ho; exact o2 o ho, dc, d1, d2, dh, dq, rfl, n1, n2⟩
end
end Go.Proofs.Ytcbppikkoelimaa

/- Lists of commands, as they come in. -/
namespace Go.Proofs.Ytcbppikkoelimaa
open Go.V Go.ChangeShapes Go.WideShapes Go.ChangeAt
set_option linter.unusedVariables false

def Cm.ok (c : Cm) : Prop := Cmd c.k c.id c.tg c.mb c.sd c.ty c.pr c.q c.pk
theorem Cm.ok.wf {c : Cm} (h : c.ok) : c.wf := ⟨h.2.1, h.2.2.2.2.2.2.2.1, h.2.2.2.2.2.2.2.2⟩
theorem okw_cm {cs : List Value} (h : okw CL cs) : ∃ c : Cm, cs = c.cells ∧ c.ok := by
  obtain ⟨k, id, tg, mb, sd, ty, pr, q, pk, rfl, hc⟩ := okw_cmd h
  exact ⟨⟨k, id, tg, mb, sd, ty, pr, q, pk⟩, rfl, hc⟩
theorem okw_cfg {cs : List Value} (h : okw [.i .i64, .i .i64] cs) : ∃ a b, cs = [.int .i64 a, .int .i64 b] ∧ I64 a ∧ I64 b := by
  match cs, h with
  | [.int _ a, .int _ b], ⟨⟨h1, w1⟩, ⟨h2, w2⟩, _⟩ => subst h1; subst h2; exact ⟨a, b, rfl, wf_i64 w1, wf_i64 w2⟩
section
variable {H : Type} {enc : TypeId × Value → H} {w : World} {base : Nat} {spare : Nat → Bool} {held : Bool}
theorem TC.cmds {cs : List Value} {d : DataW H} (h : TC enc Try.prog w base spare held 52 cs d) :
    ∃ A c, ∃ l : List Cm, cs = [.slice A l.length c] ∧ Rd w [] A (crows l) ∧ (∀ o ∈ l, o.ok) ∧ Len d l.length := by
  obtain ⟨A, c, rs, h1, h2, h3, h4⟩ := h.recs (e := 58) (ls := CL) (by kernel_rfl) (by kernel_rfl) (by kernel_rfl) (by decide)
  obtain ⟨l, rfl, hl⟩ := map_of (f := Cm.cells) (Q := Cm.ok) rs fun r hr => okw_cm (h2 r hr)
  refine ⟨A, c, l, by rw [h1, List.length_map], by rw [crows, List.flatMap_def]; exact h3, hl, ?_⟩
  rcases h4 with ⟨e1, e2⟩ | ⟨ds, sp, e1, e2⟩
  · exact .inl ⟨e1, by simpa using e2⟩
  · exact .inr ⟨ds, sp, e1, by simpa using e2⟩
end
end Go.Proofs.Ytcbppikkoelimaa

/- Commands as they come in, with their bound by bulk. -/
namespace Go.Proofs.Ytcbppikkoelimaa
open Go.V Go.ChangeShapes Go.WideShapes Go.ChangeAt
set_option linter.unusedVariables false
set_option linter.unusedSimpArgs false
theorem sum_two {α : Type} : ∀ l : List α, (l.map fun _ => 2).sum = 2 * l.length
  | [] => rfl
  | a :: l => by rw [List.map_cons, List.sum_cons, sum_two l, List.length_cons]; omega
theorem read_cmdsU {H : Type} {enc : TypeId × Value → H} {w : World} {base : Nat} {spare : Nat → Bool} {held : Bool} {cs : List Value} {d : DataW H} (h : TC enc Try.prog w base spare held 52 cs d) :
    ∃ A c, ∃ l : List Cm, cs = [.slice A l.length c] ∧ Rd w [] A (crows l) ∧ (∀ o ∈ l, o.ok) ∧ 2 * l.length ≤ Rows.uptoBulk d := by
  obtain ⟨A, cap, l, h1, h2, h3, h4, h5, h6⟩ := TC.listN Cm.cells (fun x di => x.ok ∧ 2 ≤ Rows.uptoBulk di) (m := CL.length) Try.underlying52 (by kernel_rfl) (by decide) (fun c di hc => by
    obtain ⟨es, he1, he2, -, he3⟩ := hc.struct Try.underlying58
    obtain ⟨x, hx, ho⟩ := okw_cm (hc.plain (ls := CL) (by kernel_rfl) (by kernel_rfl))
    have hb := bulk_len es
    have hl : es.length = 9 := he2
    exact ⟨x, hx, ho, by rw [he1]; simp only [Rows.uptoBulk]; omega⟩) h
  refine ⟨A, cap, l, h1, by unfold crows; exact h2, fun o ho => by obtain ⟨_, ⟨hq, _⟩, _⟩ := h5 o ho; exact hq, ?_⟩
  have := h6 (fun _ => 2) (fun x di hq => hq.2)
  rw [sum_two] at this
  exact this
end Go.Proofs.Ytcbppikkoelimaa
