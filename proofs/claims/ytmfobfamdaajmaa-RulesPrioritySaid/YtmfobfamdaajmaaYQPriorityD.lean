/- Texts that the row RQPriority stands on: QQPlain, QQPlain2, QLives, VY, QCounted, QPriority, VN, VT, QRead, QReadC. -/
import Derived.Test.YtmfobfamdaajmaaYQPriorityC
import Derived.Test.YtmfobfamdaajmaaYQPriorityB
import Derived.Test.YtmfobfamdaajmaaYQPriorityA
import Derived.SizedLaws
/- Plain: nothing is lost of a quantity. -/
namespace Go.Proofs.Ytmfobfamdaajmaa
open Go.V
set_option linter.unusedVariables false
set_option linter.unusedSimpArgs false

/-- what became of an order -/
structure Lv where
  id : Int
  qty : Int
  tr : Int
  ca : Int
  kd : Int
def Lv.cells (x : Lv) : List Value := [.int .u64 x.id, .int .u64 x.qty, .int .u64 x.tr, .int .u64 x.ca, .int .i64 x.kd]
def lids (l : List Lv) : List Int := l.map Lv.id
def Lv.more (x : Lv) (t c : Int) : Lv := ⟨x.id, x.qty, x.tr + t, x.ca + c, x.kd⟩
structure Lv.room (x : Lv) (q : Int) : Prop where
  t : 0 ≤ x.tr
  c : 0 ≤ x.ca
  s : x.tr + x.ca + q ≤ x.qty
  m : x.qty ≤ 4294967295
/-- the first one of a number -/
structure LAt (l : List Lv) (i : Int) (a : Nat) : Prop where
  lt : a < l.length
  id : l[a].id = i
  bf : ∀ j (hj : j < l.length), j < a → l[j].id ≠ i
/-- one event counted -/
inductive C1 : List Lv → Ev → List Lv → Prop
  | ack {l : List Lv} {e : Ev} (h : e.kind = 1) (hn : e.id ∉ lids l) : C1 l e (l ++ [⟨e.id, e.q, 0, 0, e.ty⟩])
  | can {l : List Lv} {e : Ev} (h : e.kind = 4) (a : Nat) (ha : LAt l e.id a) (hq : 0 < e.q) (hr : (l[a]'ha.lt).room e.q) : C1 l e (l.set a ((l[a]'ha.lt).more 0 e.q))
  | tra {l : List Lv} {e : Ev} (h : e.kind = 3) (a b : Nat) (ha : LAt l e.id a) (hb : LAt l e.other b) (hab : a ≠ b) (hq : 0 < e.q) (hr : (l[a]'ha.lt).room e.q) (hr' : (l[b]'hb.lt).room e.q) :
      C1 l e ((l.set a ((l[a]'ha.lt).more e.q 0)).set b ((l[b]'hb.lt).more e.q 0))
  | other {l : List Lv} {e : Ev} (h : e.kind ≠ 1 ∧ e.kind ≠ 3 ∧ e.kind ≠ 4) : C1 l e l
inductive Cs : List Lv → List Ev → List Lv → Prop
  | nil {l : List Lv} : Cs l [] l
  | cons {l l' z : List Lv} {e : Ev} {es : List Ev} : C1 l e l' → Cs l' es z → Cs l (e :: es) z
theorem Cs.app {l l' z : List Lv} {a b : List Ev} (h : Cs l a l') (k : Cs l' b z) : Cs l (a ++ b) z := by
  induction h with
  | nil => exact k
  | cons h1 _ ih => exact .cons h1 (ih k)
theorem Cs.one {l l' : List Lv} {e : Ev} (h : C1 l e l') : Cs l [e] l' := .cons h .nil
/-- the accounts are right: W is what is still there -/
structure AccW (W : Int → Int) (l : List Lv) : Prop where
  nd : (lids l).Nodup
  ok : ∀ x ∈ l, 0 ≤ x.tr ∧ 0 ≤ x.ca ∧ x.tr + x.ca + W x.id = x.qty ∧ x.qty ≤ 4294967295
  all : ∀ i, 0 < W i → i ∈ lids l
  nn : ∀ i, 0 ≤ W i
theorem AccW.congr {W W' : Int → Int} {l : List Lv} (h : AccW W l) (e : ∀ i, W i = W' i) : AccW W' l := by
  obtain rfl : W = W' := funext e
  exact h
theorem lat_of {l : List Lv} {i : Int} (nd : (lids l).Nodup) (h : i ∈ lids l) : ∃ a, LAt l i a := by
  obtain ⟨x, hx, e⟩ := List.mem_map.1 h
  obtain ⟨a, ha, rfl⟩ := List.mem_iff_getElem.1 hx
  refine ⟨a, ha, e, fun j hj hja e' => ?_⟩
  have h' : l.Pairwise (fun a b => a.id ≠ b.id) := List.pairwise_map.1 nd
  exact List.pairwise_iff_getElem.1 h' j a hj ha hja (e'.trans e.symm)
theorem nd_ne {l : List Lv} (nd : (lids l).Nodup) {a j : Nat} (ha : a < l.length) (hj : j < l.length) (hne : j ≠ a) : l[j].id ≠ l[a].id := by
  have h' : l.Pairwise (fun a b => a.id ≠ b.id) := List.pairwise_map.1 nd
  rcases Nat.lt_or_gt_of_ne hne with h | h
  · exact List.pairwise_iff_getElem.1 h' j a hj ha h
  · exact fun e => List.pairwise_iff_getElem.1 h' a j ha hj h e.symm
theorem lids_set {l : List Lv} {a : Nat} {y : Lv} (ha : a < l.length) (h : y.id = l[a].id) : lids (l.set a y) = lids l := by
  unfold lids
  rw [List.map_set, h]
  have : (l.map Lv.id)[a]'(by simpa using ha) = l[a].id := by simp
  rw [← this, List.set_getElem_self]
theorem AccW.set {W W' : Int → Int} {l : List Lv} (h : AccW W l) {a : Nat} (ha : a < l.length) {t c : Int} (h0 : 0 ≤ t ∧ 0 ≤ c) (hw : t + c ≤ W l[a].id) (e : ∀ i, W' i = W i - if l[a].id = i then t + c else 0) :
    AccW W' (l.set a (l[a].more t c)) := by
  have hl : lids (l.set a (l[a].more t c)) = lids l := lids_set ha rfl
  refine ⟨by rw [hl]; exact h.nd, fun x hx => ?_, fun i hi => ?_, fun i => ?_⟩
  · obtain ⟨j, hj, rfl⟩ := List.mem_iff_getElem.1 hx
    rw [List.getElem_set]
    have hj' : j < l.length := by simpa using hj
    split
    · rename_i e1
      have := h.ok _ (List.getElem_mem ha)
      have e2 := e l[a].id
      rw [if_pos rfl] at e2
      unfold Lv.more
      simp only
      rw [e2]; omega
    · rename_i e1
      have := h.ok _ (List.getElem_mem hj')
      rw [e, if_neg (fun e2 => nd_ne h.nd ha hj' (fun e3 => e1 e3.symm) e2.symm)]
      omega
  · rw [hl]
    refine h.all i ?_
    rw [e] at hi
    split at hi <;> omega
  · rw [e]
    have := h.nn i
    split
    · rename_i e1; rw [← e1]; omega
    · omega
theorem acc_can {W W' : Int → Int} {l : List Lv} {e : Ev} (h : AccW W l) (hk : e.kind = 4) (hq : 0 < e.q) (hw : e.q ≤ W e.id) (hW : ∀ i, W' i = W i - if e.id = i then e.q else 0) : ∃ l', C1 l e l' ∧ AccW W' l' ∧ lids l' = lids l := by
  obtain ⟨a, ha⟩ := lat_of h.nd (h.all e.id (by omega))
  have hid := ha.id
  have hok := h.ok _ (List.getElem_mem ha.lt)
  rw [hid] at hok
  refine ⟨_, .can hk a ha hq ⟨by omega, by omega, by omega, by omega⟩, h.set ha.lt (t := 0) (c := e.q) (by omega) (by rw [hid]; omega) (fun i => ?_), lids_set ha.lt rfl⟩
  rw [hW, hid, Int.zero_add]
theorem acc_tra {W W' : Int → Int} {l : List Lv} {e : Ev} (h : AccW W l) (hk : e.kind = 3) (hne : e.id ≠ e.other) (hq : 0 < e.q) (hw : e.q ≤ W e.id) (hw' : e.q ≤ W e.other) (hW : ∀ i, W' i = W i - (if e.id = i then e.q else 0) - (if e.other = i then e.q else 0)) :
    ∃ l', C1 l e l' ∧ AccW W' l' ∧ lids l' = lids l := by
  obtain ⟨a, ha⟩ := lat_of h.nd (h.all e.id (by omega))
  obtain ⟨b, hb⟩ := lat_of h.nd (h.all e.other (by omega))
  have hid := ha.id
  have hid' := hb.id
  have hab : a ≠ b := fun e1 => by subst e1; exact hne (hid.symm.trans hid')
  have hok := h.ok _ (List.getElem_mem ha.lt)
  have hok' := h.ok _ (List.getElem_mem hb.lt)
  rw [hid] at hok
  rw [hid'] at hok'
  have hba : b < (l.set a ((l[a]'ha.lt).more e.q 0)).length := by simpa using hb.lt
  have hg : (l.set a ((l[a]'ha.lt).more e.q 0))[b] = l[b]'hb.lt := by rw [List.getElem_set, if_neg hab]
  have s1 : AccW (fun i => W i - if e.id = i then e.q else 0) (l.set a ((l[a]'ha.lt).more e.q 0)) := h.set ha.lt (t := e.q) (c := 0) (by omega) (by rw [hid]; omega) (fun i => by rw [hid, Int.add_zero])
  have s2 := s1.set (W' := W') hba (t := e.q) (c := 0) (by omega) (by rw [hg, hid', if_neg hne]; omega) (fun i => by rw [hg, hid', hW, Int.add_zero])
  rw [hg] at s2
  refine ⟨_, .tra hk a b ha hb hab hq ⟨by omega, by omega, by omega, by omega⟩ ⟨by omega, by omega, by omega, by omega⟩, s2, ?_⟩
  exact (lids_set hba (y := (l[b]'hb.lt).more e.q 0) (by rw [hg]; rfl)).trans (lids_set ha.lt rfl)
/-- how much of a number a side has -/
def amt (i : Int) : List Ord → Int
  | [] => 0
  | o :: l => (if o.id = i then o.v + o.hd else 0) + amt i l
theorem amt_app (i : Int) : ∀ a b : List Ord, amt i (a ++ b) = amt i a + amt i b
  | [], b => by simp [amt]
  | o :: a, b => by simp only [List.cons_append, amt, amt_app i a b]; omega
theorem amt_perm {i : Int} {a b : List Ord} (h : a.Perm b) : amt i a = amt i b := by
  induction h with
  | nil => rfl
  | cons x _ ih => simp only [amt, ih]
  | swap x y l => simp only [amt]; omega
  | trans _ _ h1 h2 => exact h1.trans h2
theorem amt_nn {i : Int} : ∀ {l : List Ord}, (∀ o ∈ l, o.G) → 0 ≤ amt i l
  | [], _ => Int.le_refl _
  | o :: l, h => by
    have ih := amt_nn (i := i) fun x hx => h x (List.mem_cons_of_mem o hx)
    have := h o (by simp)
    unfold Ord.G at this
    unfold amt; split <;> omega
theorem amt_none {i : Int} : ∀ {l : List Ord}, i ∉ ids l → amt i l = 0
  | [], _ => rfl
  | o :: l, h => by
    have h' : ¬ (i = o.id ∨ i ∈ ids l) := fun e => h (List.mem_cons.2 e)
    have ih := amt_none (l := l) fun e => h' (.inr e)
    unfold amt; rw [if_neg (fun e => h' (.inl e.symm)), ih]; rfl
theorem amt_mem {i : Int} {o : Ord} : ∀ {l : List Ord}, (ids l).Nodup → o ∈ l → o.id = i → amt i l = o.v + o.hd
  | x :: l, nd, hm, e => by
    have nd : x.id ∉ ids l ∧ (ids l).Nodup := List.nodup_cons.1 nd
    unfold amt
    rcases List.mem_cons.1 hm with rfl | hm
    · rw [if_pos e, amt_none (by rw [← e]; exact nd.1)]; omega
    · have hne : x.id ≠ i := fun e' => nd.1 (by rw [e', ← e]; exact List.mem_map.2 ⟨o, hm, rfl⟩)
      rw [if_neg hne, amt_mem nd.2 hm e]; omega
theorem amt_pos {i : Int} {l : List Ord} (h : 0 < amt i l) : i ∈ ids l := Decidable.byContradiction fun hn => by rw [amt_none hn] at h; omega
/-- what is still there, while an order trades: the other side, its own side, itself -/
def Wt (t : Tk) (S : List Ord) (s : TS) (i : Int) : Int := amt i s.L + amt i S + if t.o.id = i then s.left else 0
theorem step_acc {meet : Int} {t : Tk} {S : List Ord} {s s' : TS} {al : List Lv} (h : s.Ok) (hS : ∀ o ∈ S, o.G) (hs : s.step meet t = some s') (hid : t.o.id ∉ ids (s.L ++ S)) (ha : AccW (Wt t S s) al) :
    ∃ l al', s'.evs = s.evs ++ l ∧ Cs al l al' ∧ AccW (Wt t S s') al' ∧ lids al' = lids al := by
  obtain ⟨L, left, seq, evs⟩ := s
  obtain ⟨hg, hlo, hhi⟩ := h
  unfold TS.step at hs
  simp only at hs hg hlo hhi hid
  cases L with
  | nil => cases hs
  | cons f rest =>
    simp only at hs
    have hfG := hg f (by simp)
    have hrest : ∀ i, 0 ≤ amt i rest := fun i => amt_nn fun x hx => hg x (by simp [hx])
    have hSn : ∀ i, 0 ≤ amt i S := fun i => amt_nn hS
    have hne : t.o.id ≠ f.id := fun e => hid (by rw [e]; exact List.mem_map.2 ⟨f, by simp, rfl⟩)
    have hW : ∀ i, Wt t S ⟨f :: rest, left, seq, evs⟩ i = (if f.id = i then f.v + f.hd else 0) + amt i rest + amt i S + if t.o.id = i then left else 0 := fun i => rfl
    have hWt := hW t.o.id
    rw [if_pos rfl, if_neg (Ne.symm hne)] at hWt
    have hWf := hW f.id
    rw [if_pos rfl, if_neg hne] at hWf
    have r1 := hrest t.o.id
    have r2 := hrest f.id
    have r3 := hSn t.o.id
    have r4 := hSn f.id
    unfold Ord.G at hfG
    split at hs
    · rename_i hc
      have hl0 := hc.1
      simp only [Option.some.injEq] at hs
      subst hs
      split
      · simp only [TS.meets]
        by_cases m1 : meet = 1
        · rw [if_pos m1, if_neg (show ¬ meet = 2 by omega)]
          obtain ⟨al', c1, c2, c3⟩ := acc_can (W' := Wt t S ⟨f :: rest, 0, seq, evs⟩) (e := (evCancel t.o.id left 5).num (nx seq)) ha rfl hl0 (by show left ≤ Wt _ _ _ t.o.id; omega) (fun i => by
            show _ = _ - if t.o.id = i then left else 0
            unfold Wt; simp only; split <;> omega)
          exact ⟨_, al', rfl, .one c1, c2, c3⟩
        · rw [if_neg m1]
          obtain ⟨al1, c1, c2, c3⟩ := acc_can (W' := Wt t S ⟨rest, left, seq, evs⟩) (e := (evCancel f.id (f.v + f.hd) 5).num (nx seq)) ha rfl (by show 0 < f.v + f.hd; omega) (by show f.v + f.hd ≤ Wt _ _ _ f.id; omega) (fun i => by
            show _ = _ - if f.id = i then f.v + f.hd else 0
            rw [hW]; unfold Wt; simp only; omega)
          by_cases m2 : meet = 2
          · rw [if_pos m2]
            exact ⟨_, al1, rfl, .one c1, c2, c3⟩
          · rw [if_neg m2]
            obtain ⟨al2, d1, d2, d3⟩ := acc_can (W' := Wt t S ⟨rest, 0, seq, evs⟩) (e := (evCancel t.o.id left 5).num (nx (nx seq))) c2 rfl hl0 (by show left ≤ Wt _ _ _ t.o.id; unfold Wt; simp only [if_true]; omega) (fun i => by
              show _ = _ - if t.o.id = i then left else 0
              unfold Wt; simp only; split <;> omega)
            exact ⟨_, al2, List.append_assoc _ _ _, (Cs.one c1).app (.one d1), d2, d3.trans c3⟩
      · simp only [TS.hit]
        have hq : 0 < min left f.v := by omega
        have key : ∀ (s' : TS), s'.left = left - min left f.v → (∀ i, amt i s'.L = (if f.id = i then f.v + f.hd - min left f.v else 0) + amt i rest) →
            ∃ al', C1 al ((evTrade t.o.id f.id t.side f.pr (min left f.v)).num (nx seq)) al' ∧ AccW (Wt t S s') al' ∧ lids al' = lids al := fun s' e1 e2 =>
          acc_tra ha rfl hne hq (by show min left f.v ≤ Wt _ _ _ t.o.id; omega) (by show min left f.v ≤ Wt _ _ _ f.id; omega) (fun i => by
            show _ = _ - (if t.o.id = i then min left f.v else 0) - (if f.id = i then min left f.v else 0)
            rw [hW]; unfold Wt; rw [e1, e2]
            split <;> split <;> omega)
        by_cases c1 : 0 < f.v - min left f.v
        · rw [if_pos c1]
          obtain ⟨al', c1, c2, c3⟩ := key ⟨f.less (min left f.v) :: rest, left - min left f.v, nx seq, evs⟩ rfl (fun i => by
            show (if f.id = i then (f.v - min left f.v) + f.hd else 0) + amt i rest = _
            split <;> omega)
          exact ⟨_, al', rfl, .one c1, c2, c3⟩
        · rw [if_neg c1]
          by_cases c2 : 0 < f.hd
          · rw [if_pos c2]
            obtain ⟨al', d1, d2, d3⟩ := key ⟨rst (3 - t.side) f.next rest, left - min left f.v, nx (nx seq), evs⟩ rfl (fun i => by
              show amt i (rst (3 - t.side) f.next rest) = _
              rw [amt_perm (rst_perm _ _ _)]
              show (if f.id = i then min f.pk f.hd + (f.hd - min f.pk f.hd) else 0) + amt i rest = _
              split <;> omega)
            exact ⟨_, al', List.append_assoc _ _ _, (Cs.one d1).app (.one (.other (by show (5 : Int) ≠ 1 ∧ (5 : Int) ≠ 3 ∧ (5 : Int) ≠ 4; decide))), d2, d3⟩
          · rw [if_neg c2]
            obtain ⟨al', c1, c2, c3⟩ := key ⟨rest, left - min left f.v, nx seq, evs⟩ rfl (fun i => by
              show amt i rest = _
              split <;> omega)
            exact ⟨_, al', rfl, .one c1, c2, c3⟩
    · cases hs
theorem TRun.acc {meet : Int} {t : Tk} {S : List Ord} {s z : TS} {al : List Lv} (hr : TRun meet t s z) (h : s.Ok) (hS : ∀ o ∈ S, o.G) (hsd : Sd (3 - t.side) s.L) (hid : t.o.id ∉ ids (s.L ++ S)) (ha : AccW (Wt t S s) al) :
    ∃ l al', z.evs = s.evs ++ l ∧ Cs al l al' ∧ AccW (Wt t S z) al' ∧ lids al' = lids al := by
  induction hr generalizing al with
  | stop _ => exact ⟨[], al, by simp, .nil, ha, rfl⟩
  | step hs _ ih =>
    obtain ⟨l1, al1, a1, a2, a3, a4⟩ := step_acc h hS hs hid ha
    have hk := step_keeps hs hsd
    obtain ⟨l2, al2, b1, b2, b3, b4⟩ := ih (h.step hs).1 hk.sd (fun hm => hid (by
      rw [ids_app, List.mem_append] at hm ⊢
      exact hm.imp (ids_mem hk.ids _) id)) a3
    exact ⟨l1 ++ l2, al2, by rw [b1, a1, List.append_assoc], a2.app b2, b3, b4.trans a4⟩
end Go.Proofs.Ytmfobfamdaajmaa

/- Plain: nothing is lost of a quantity, whatever a book is told. -/
namespace Go.Proofs.Ytmfobfamdaajmaa
open Go.V
set_option linter.unusedVariables false
set_option linter.unusedSimpArgs false

def Bk.amt (B : Bk) (i : Int) : Int := Proofs.Ytmfobfamdaajmaa.amt i B.bs + Proofs.Ytmfobfamdaajmaa.amt i B.ss
theorem side_amt {B : Bk} {s : Int} (h : s = 1 ∨ s = 2) (i : Int) : B.amt i = amt i (B.side (3 - s)) + amt i (B.side s) := by
  rcases h with rfl | rfl
  · show _ = amt i B.ss + amt i B.bs; unfold Bk.amt; omega
  · rfl
theorem put_amt {B : Bk} {s : Int} (h : s = 1 ∨ s = 2) (l : List Ord) (i : Int) : (B.put s l).amt i = amt i l + amt i (B.side (3 - s)) := by
  rcases h with rfl | rfl
  · rfl
  · show amt i B.bs + amt i l = amt i l + amt i B.bs; omega
/-- the accounts of a book are right -/
structure Acc (B : Bk) (al : List Lv) : Prop where
  w : AccW B.amt al
  hi : ∀ i ∈ lids al, i ≤ B.high
theorem erase_amt {l : List Ord} {k : Nat} (hk : k < l.length) (i : Int) : amt i (l.eraseIdx k) = amt i l - if l[k].id = i then l[k].v + l[k].hd else 0 := by
  have e : l = l.take k ++ l[k] :: l.drop (k + 1) := by rw [← List.drop_eq_getElem_cons hk, List.take_append_drop]
  have e2 : amt i l = amt i (l.take k ++ l[k] :: l.drop (k + 1)) := congrArg (amt i) e
  rw [List.eraseIdx_eq_take_drop_succ, e2, amt_app, amt_app]
  show _ = amt i (l.take k) + ((if l[k].id = i then l[k].v + l[k].hd else 0) + amt i (l.drop (k + 1))) - _
  omega
theorem goes_acc {B : Bk} {c : Cm} {al : List Lv} (h : B.Vl) (ht : c.k ≠ 1 → B.tgt c ≠ none) (ha : AccW B.amt al) : ∃ al', Cs al (B.gone c) al' ∧ AccW (B.goes c).amt al' ∧ lids al' = lids al := by
  unfold Bk.gone Bk.goes
  by_cases hk : c.k ≠ 1
  · rw [if_pos hk, if_pos hk]
    rcases at_spec B c with ⟨_, h', _⟩ | ⟨s, hs, k, hk', e, e2, hid⟩
    · exact absurd h' (ht hk)
    rw [e, e2]
    simp only [Int.toNat_natCast]
    have hG := (h.rests _ (B.side_sub s _ (List.getElem_mem hk'))).G
    unfold Ord.G at hG
    have hn3 : ∀ i, 0 ≤ amt i (B.side (3 - s)) := fun i => amt_nn fun x hx => (h.rests x (B.side_sub _ x hx)).G
    have hn4 : ∀ i, 0 ≤ amt i ((B.side s).eraseIdx k) := fun i => amt_nn fun x hx => (h.rests x (B.side_sub _ x (List.mem_of_mem_eraseIdx hx))).G
    have herase := fun i => erase_amt hk' i
    generalize (B.side s)[k] = o at *
    obtain ⟨al', c1, c2, c3⟩ := acc_can (W' := ((B.put s ((B.side s).eraseIdx k)).num (nx B.seq)).amt) (e := (evCancel c.tg (o.v + o.hd) (if c.k = 3 then 2 else 1)).num (nx B.seq)) ha rfl (by show 0 < o.v + o.hd; omega)
      (by show o.v + o.hd ≤ B.amt c.tg
          have h1 := herase c.tg
          rw [if_pos hid] at h1
          rw [side_amt hs]
          have := hn3 c.tg; have := hn4 c.tg; omega)
      (fun i => by
        show (B.put s ((B.side s).eraseIdx k)).amt i = B.amt i - if c.tg = i then o.v + o.hd else 0
        rw [put_amt hs, herase, side_amt hs, hid]; omega)
    exact ⟨al', .one c1, c2, c3⟩
  · rw [if_neg hk, if_neg hk]
    exact ⟨al, .nil, ha, rfl⟩
theorem acc_ack {W W' : Int → Int} {l : List Lv} {e : Ev} (h : AccW W l) (hk : e.kind = 1) (hn : e.id ∉ lids l) (h0 : W e.id = 0) (hq : 0 < e.q ∧ e.q ≤ 4294967295) (hW : ∀ i, W' i = W i + if e.id = i then e.q else 0) :
    ∃ l', C1 l e l' ∧ AccW W' l' ∧ lids l' = lids l ++ [e.id] := by
  refine ⟨_, .ack hk hn, ⟨?_, fun x hx => ?_, fun i hi => ?_, fun i => ?_⟩, by simp [lids]⟩
  · have : lids (l ++ [⟨e.id, e.q, 0, 0, e.ty⟩]) = lids l ++ [e.id] := by simp [lids]
    rw [this, List.nodup_append]
    exact ⟨h.nd, by simp, fun a ha b hb => by simp at hb; subst hb; exact fun e' => hn (e' ▸ ha)⟩
  · rcases List.mem_append.1 hx with hx | hx
    · have := h.ok x hx
      rw [hW, if_neg (fun e' => hn (by rw [e']; exact List.mem_map.2 ⟨x, hx, rfl⟩))]; omega
    · simp at hx
      subst hx
      simp only
      rw [hW, if_pos rfl, h0]; omega
  · rw [hW] at hi
    have : i ∈ lids l ∨ i = e.id := by
      by_cases e1 : e.id = i
      · exact .inr e1.symm
      · rw [if_neg e1] at hi; exact .inl (h.all i (by omega))
    simpa [lids] using this
  · rw [hW]; have := h.nn i; split <;> omega
theorem comes_acc {B : Bk} {evs : List Ev} {t : Tk} {al : List Lv} (h : B.Vl) (k : t.V B) (hh : t.o.id ≤ B.high) (ha : AccW (fun i => B.amt i + if t.o.id = i then t.left else 0) al) :
    ∃ l al', (B.comes evs t).2 = evs ++ l ∧ Cs al l al' ∧ AccW (B.comes evs t).1.amt al' ∧ lids al' = lids al := by
  have hOk : (B.ts evs t).Ok := ts_ok' h k
  have hrun := tr_run (meet := B.meet) (t := t) hOk
  obtain ⟨zok, zlen, _, zl⟩ := hrun.ok hOk
  have hfr : t.o.id ∉ ids (B.bs ++ B.ss) := fun hm => absurd (k.fresh _ hm) (Int.lt_irrefl _)
  have hsub : ∀ s : Int, ∀ i, i ∈ ids (B.side s) → i ∈ ids (B.bs ++ B.ss) := fun s i hi => by
    obtain ⟨o, ho, e⟩ := List.mem_map.1 hi
    exact List.mem_map.2 ⟨o, B.side_sub s o ho, e⟩
  have hnn : ∀ s : Int, ∀ i, 0 ≤ amt i (B.side s) := fun s i => amt_nn fun x hx => (h.rests x (B.side_sub _ x hx)).G
  have hW0 : AccW (Wt t (B.side t.side) (B.ts evs t)) al := ha.congr fun i => by
    show B.amt i + _ = amt i (B.side (3 - t.side)) + amt i (B.side t.side) + _
    rw [side_amt k.sd]; rfl
  obtain ⟨l, al', a1, a2, a3, a4⟩ := hrun.acc hOk (S := B.side t.side) (fun o ho => (h.rests o (B.side_sub _ o ho)).G)
    (by show Sd _ (B.side (3 - t.side)); rcases k.sd with e | e <;> rw [e]; exact h.s2; exact h.s1)
    (fun hm => by
      rw [ids_app, List.mem_append] at hm
      rcases hm with hm | hm
      · exact hfr (hsub _ _ hm)
      · exact hfr (hsub _ _ hm)) hW0
  unfold Bk.comes
  split
  · obtain ⟨al', c1, c2, c3⟩ := acc_can (W' := (B.num (nx B.seq)).amt) (e := (evCancel t.o.id t.left 4).num (nx B.seq)) ha rfl (by show 0 < t.left; have := k.q; omega) (by
      show t.left ≤ B.amt t.o.id + if t.o.id = t.o.id then t.left else 0
      rw [if_pos rfl, side_amt k.sd]
      have := hnn (3 - t.side) t.o.id; have := hnn t.side t.o.id; omega) (fun i => by
      show B.amt i = (B.amt i + if t.o.id = i then t.left else 0) - if t.o.id = i then t.left else 0
      omega)
    exact ⟨_, al', rfl, .one c1, c2, c3⟩
  · simp only
    generalize tr B.meet t (B.ts evs t) = z at *
    obtain ⟨v1, v2, v3, v4, v5⟩ := traded_vl h k.sd hrun zlen
    have hamt : ∀ i, (B.traded t z).amt i = amt i z.L + amt i (B.side t.side) := fun i => by rw [side_amt k.sd, v3, v4]
    have hzn : ∀ i, 0 ≤ amt i z.L := fun i => amt_nn fun x hx => zok.good x hx
    have hlo := zok.lo
    split
    · rename_i hl
      refine ⟨l, al', a1, a2, a3.congr fun i => ?_, a4⟩
      rw [hamt]; unfold Wt; rw [hl]; split <;> omega
    · rename_i hl
      split
      · obtain ⟨al2, c1, c2, c3⟩ := acc_can (W' := ((B.traded t z).num (nx (B.traded t z).seq)).amt) (e := (evCancel t.o.id z.left 3).num (nx (B.traded t z).seq)) a3 rfl (by show 0 < z.left; omega) (by
          show z.left ≤ Wt t (B.side t.side) z t.o.id
          unfold Wt; rw [if_pos rfl]
          have := hzn t.o.id; have := hnn t.side t.o.id; omega) (fun i => by
          show (B.traded t z).amt i = _ - if t.o.id = i then z.left else 0
          rw [hamt]; unfold Wt; omega)
        exact ⟨l ++ [(evCancel t.o.id z.left 3).num (nx (B.traded t z).seq)], al2, by rw [a1, List.append_assoc]; rfl, a2.app (.one c1), c2, c3.trans a4⟩
      · refine ⟨l, al', a1, a2, a3.congr fun i => ?_, a4⟩
        rw [put_amt k.sd, v3, v4, amt_perm (rst_perm _ _ _)]
        have e3 : amt i (restOf t.o z.left :: B.side t.side) = (if t.o.id = i then (restOf t.o z.left).v + (restOf t.o z.left).hd else 0) + amt i (B.side t.side) := rfl
        have e4 : (restOf t.o z.left).v + (restOf t.o z.left).hd = z.left := by unfold restOf; simp only; omega
        rw [e3, e4]
        unfold Wt
        split <;> omega
theorem does_acc {B : Bk} {c : Cm} {al : List Lv} (h : B.Vl) (hw : c.wf) (ha : Acc B al) : ∃ al', Cs al (B.does c).2 al' ∧ Acc (B.does c).1 al' ∧ al'.length ≤ al.length + 1 := by
  have llen : ∀ l : List Lv, (lids l).length = l.length := fun l => by simp [lids]
  by_cases h0 : B.why c ≠ 0
  · rw [does_no h0]
    exact ⟨al, .one (.other (by show (2 : Int) ≠ 1 ∧ (2 : Int) ≠ 3 ∧ (2 : Int) ≠ 4; decide)), ⟨ha.w, ha.hi⟩, by omega⟩
  have h0' : B.why c = 0 := Decidable.of_not_not h0
  obtain ⟨z1, z2, z3, z4, z5⟩ := rfs_zero h0'
  obtain ⟨al1, a1, a2, a3⟩ := goes_acc (c := c) h z1 ha.w
  have hgv := goes_vl (c := c) h z1
  have hgc := goes_cap B c
  unfold Bk.does
  rw [if_neg h0]
  by_cases h2 : c.k ≠ 2
  · rw [if_pos h2]
    obtain ⟨hV, hlt⟩ := cmg_V h hw h0' h2
    generalize cmg c (B.tgt c) (B.at_ c).1 = t at *
    have hB0 : (((B.goes c).num (nx (B.goes c).seq)).top t.o.id).Vl := top_vl (num_vl _ hgv) (by show (B.goes c).high ≤ _; rw [hgc.2.2]; omega)
    have hfr : t.o.id ∉ ids ((B.goes c).bs ++ (B.goes c).ss) := fun hm => absurd (hV.fresh _ hm) (Int.lt_irrefl _)
    have h00 : (B.goes c).amt t.o.id = 0 := by
      unfold Bk.amt
      rw [ids_app, List.mem_append] at hfr
      rw [amt_none (fun e => hfr (.inl e)), amt_none (fun e => hfr (.inr e))]; rfl
    obtain ⟨al2, b1, b2, b3⟩ := acc_ack (W' := fun i => (((B.goes c).num (nx (B.goes c).seq)).top t.o.id).amt i + if t.o.id = i then t.left else 0) (e := (evAck t).num (nx (B.goes c).seq)) a2 rfl
      (fun hm => by
        rw [a3] at hm
        have := ha.hi _ hm
        have e : ((evAck t).num (nx (B.goes c).seq)).id = t.o.id := rfl
        omega) h00 (by have := hV.q; exact ⟨by show 0 < t.left; omega, this.2⟩) (fun i => rfl)
    obtain ⟨l, al3, c1, c2, c3, c4⟩ := comes_acc (evs := B.gone c ++ [(evAck t).num (nx (B.goes c).seq)]) hB0 hV (Int.le_refl _) b2
    obtain ⟨_, _, _, hhigh⟩ := comes_evs (B := ((B.goes c).num (nx (B.goes c).seq)).top t.o.id) (evs := B.gone c ++ [(evAck t).num (nx (B.goes c).seq)]) (t := t) (ts_ok' hB0 hV)
    refine ⟨al3, by rw [c1]; exact (a1.app (.one b1)).app c2, ⟨c3, fun i hi => ?_⟩, by rw [← llen, ← llen al, c4, b3, a3]; simp⟩
    rw [hhigh.2]
    rw [c4, b3, a3, List.mem_append] at hi
    show i ≤ t.o.id
    rcases hi with hi | hi
    · have := ha.hi i hi; omega
    · simp at hi; subst hi; exact Int.le_refl _
  · rw [if_neg h2]
    exact ⟨al1, a1, ⟨a2, fun i hi => by rw [hgc.2.2]; rw [a3] at hi; exact ha.hi i hi⟩, by rw [← llen, ← llen al, a3]; omega⟩
/-- how many of the accounts stand in a book -/
def stand (B : Bk) (al : List Lv) : Nat := (al.filter fun x => (fnd x.id B.bs B.ss).isSome).length
theorem fnd_iff {i : Int} {B : Bk} : (fnd i B.bs B.ss).isSome = true ↔ i ∈ ids (B.bs ++ B.ss) := by
  constructor
  · intro h
    exact Decidable.byContradiction fun hn => by rw [fnd_none hn] at h; cases h
  · intro h
    obtain ⟨p, hp, _⟩ := fnd_some h
    rw [hp]; rfl
theorem stand_len {B : Bk} {al : List Lv} (h : B.Vl) (ha : Acc B al) : stand B al = B.bs.length + B.ss.length := by
  have e1 : stand B al = ((lids al).filter fun i => (fnd i B.bs B.ss).isSome).length := by
    unfold stand lids
    rw [List.filter_map, List.length_map]; rfl
  have hp : ((lids al).filter fun i => (fnd i B.bs B.ss).isSome).Perm (ids (B.bs ++ B.ss)) := by
    refine (List.perm_ext_iff_of_nodup (List.Nodup.sublist List.filter_sublist ha.w.nd) h.nd).2 fun i => ?_
    rw [List.mem_filter, fnd_iff]
    refine ⟨fun e => e.2, fun e => ⟨ha.w.all i ?_, e⟩⟩
    obtain ⟨o, ho, rfl⟩ := List.mem_map.1 e
    have hG := (h.rests o ho).G
    unfold Ord.G at hG
    have : B.amt o.id = amt o.id (B.bs ++ B.ss) := (amt_app _ _ _).symm
    rw [this, amt_mem h.nd ho rfl]; omega
  rw [e1, hp.length_eq]
  simp [ids]
theorem stand_take {B : Bk} {al : List Lv} {j : Nat} (h : j < al.length) : stand B (al.take (j + 1)) = stand B (al.take j) + if (fnd al[j].id B.bs B.ss).isSome = true then 1 else 0 := by
  unfold stand
  rw [← List.take_append_getElem h, List.filter_append, List.length_append]
  congr 1
  split
  · rename_i e; simp [e]
  · rename_i e; simp [e]
/-- an account and what stands there of its order -/
theorem fnd_acc {B : Bk} {al : List Lv} (h : B.Vl) (ha : Acc B al) {x : Lv} (hx : x ∈ al) : ∃ (o : Ord) (s : Int), fndV (fnd x.id B.bs B.ss) = .tuple ⟨[.agg ⟨o.cells⟩, .int .i64 s, .bool (fnd x.id B.bs B.ss).isSome]⟩ ∧
    0 ≤ x.tr ∧ 0 ≤ x.ca ∧ 0 ≤ o.v ∧ 0 ≤ o.hd ∧ x.tr + x.ca + o.v + o.hd = x.qty ∧ x.qty ≤ 4294967295 := by
  have hok := ha.w.ok x hx
  by_cases hm : x.id ∈ ids (B.bs ++ B.ss)
  · obtain ⟨p, hp, hpm, hpi⟩ := fnd_some hm
    refine ⟨p.2, p.1, by rw [hp]; rfl, ?_⟩
    have hG := (h.rests _ hpm).G
    unfold Ord.G at hG
    have : B.amt x.id = amt x.id (B.bs ++ B.ss) := (amt_app _ _ _).symm
    rw [this, amt_mem h.nd hpm hpi] at hok
    omega
  · refine ⟨ord0, 0, by rw [fnd_none hm]; rfl, ?_⟩
    have : B.amt x.id = amt x.id (B.bs ++ B.ss) := (amt_app _ _ _).symm
    rw [this, amt_none hm] at hok
    simp only [ord0]; omega
end Go.Proofs.Ytmfobfamdaajmaa

/- The accounts in memory: find. -/
namespace Go.Proofs.Ytmfobfamdaajmaa
open Go.V
set_option linter.unusedVariables false
set_option linter.unusedSimpArgs false

def lrows (l : List Lv) : List Value := l.flatMap Lv.cells
theorem lrows_length (l : List Lv) : (lrows l).length = l.length * 5 := flatMap_length _ 5 (fun _ => rfl) l
theorem lrows_get (l : List Lv) (i j : Nat) (hi : i < l.length) (hj : j < 5) : (lrows l)[i * 5 + j]? = (l[i].cells)[j]? := flatMap_get _ 5 (fun _ => rfl) l i j hi hj
theorem lrows_app (a b : List Lv) : lrows (a ++ b) = lrows a ++ lrows b := by simp [lrows]
abbrev LOwn (v : Value) (l : List Lv) (h : Hp) : Prop := OwnS 61 5 v l.length (lrows l) h
theorem LOwn.ld {w0 : World} {own : List Nat} {b o n c i j : Nat} {l : List Lv} {h hs : Hp} {v : Value} (k : LOwn (.slice (some ⟨b, o, none⟩) n c) l h) (hh : h ⊆ hs) (hi : i < l.length) (hj : j < 5) (hv : (l[i].cells)[j]? = some v) : At w0 own hs ⟨b, o + i * 5 + j, none⟩ [v] := by
  rw [Nat.add_assoc]
  exact OwnS.at1 k hh (by rw [lrows_get l i j hi hj]; exact hv)
theorem lrows_set {l : List Lv} {i k : Nat} {v : Value} {y : Lv} (hi : i < l.length) (hk : k < 5) (hy : y.cells = l[i].cells.set k v) : (lrows l).set (i * 5 + k) v = lrows (l.set i y) := by
  apply List.ext_getElem?
  intro p
  by_cases hp : p < l.length * 5
  · have e : p = p / 5 * 5 + p % 5 := by omega
    have hq : p / 5 < l.length := by omega
    have hr : p % 5 < 5 := Nat.mod_lt _ (by omega)
    rw [e, lrows_get _ _ _ (by simpa using hq) hr, List.getElem?_set, List.getElem_set, lrows_get _ _ _ hq hr, lrows_length]
    by_cases e1 : i = p / 5
    · subst e1
      rw [if_pos rfl, hy, List.getElem?_set]
      have hc : l[p / 5].cells.length = 5 := rfl
      by_cases e2 : k = p % 5
      · rw [if_pos (by omega), if_pos (by omega), if_pos e2, if_pos (by omega)]
      · rw [if_neg (by omega), if_neg e2]
    · rw [if_neg e1, if_neg (by omega)]
  · rw [List.getElem?_eq_none (by rw [List.length_set, lrows_length]; omega), List.getElem?_eq_none (by rw [lrows_length, List.length_set]; omega)]
theorem OwnS.setAt {E m n n' c b o i : Nat} {vs l : List Value} {v : Value} (k : OwnS E m (.slice (some ⟨b, o, none⟩) n' c) n vs [(b, .cells l E)]) (hi : i < n * m) : OwnS E m (.slice (some ⟨b, o, none⟩) n' c) n (vs.set i v) [(b, .cells (l.set (o + i) v) E)] := by
  obtain ⟨hl, k⟩ := k
  refine ⟨by rw [List.length_set]; exact hl, ?_⟩
  rcases k with ⟨h1, h2, h3⟩ | ⟨b', o', cap, l', h1, h2, h3, h4, h5⟩
  · cases h3
  · cases h1; cases h2
    refine .inr ⟨b, o, c, l.set (o + i) v, rfl, rfl, h3, by rw [List.length_set]; exact h4, ?_⟩
    rw [← h5]
    apply List.ext_getElem?
    intro p
    simp only [List.getElem?_take, List.getElem?_drop, List.getElem?_set, List.length_take, List.length_drop]
    by_cases hp : p < n * m
    · rw [if_pos hp]
      by_cases e : o + i = o + p
      · have e' : i = p := by omega
        subst e'
        have hc : n * m ≤ c * m := Nat.mul_le_mul_right _ h3
        rw [if_pos rfl, if_pos rfl, if_pos (by omega), if_pos (by omega)]
      · rw [if_neg e, if_neg (by omega), if_pos hp]
    · rw [if_neg hp]
      have : i ≠ p := by omega
      rw [if_neg this, if_neg hp]
def lx (id : Int) (l : List Lv) : Int := match l.findIdx? (fun o => decide (o.id = id)) with
  | some i => i
  | none => -1
theorem LAt.lx {l : List Lv} {i : Int} {a : Nat} (h : LAt l i a) : lx i l = a := by
  have : l.findIdx? (fun o => decide (o.id = i)) = some a := by
    rw [List.findIdx?_eq_some_iff_getElem]
    exact ⟨h.lt, by simpa using h.id, fun j hj => by simpa using h.bf j (by have := h.lt; omega) hj⟩
  unfold Proofs.Ytmfobfamdaajmaa.lx; rw [this]
theorem lx_no {l : List Lv} {i : Int} (h : i ∉ lids l) : lx i l = -1 := by
  have : l.findIdx? (fun o => decide (o.id = i)) = none := by
    rw [List.findIdx?_eq_none_iff]
    intro x hx
    simpa using fun e : x.id = i => h (List.mem_map.2 ⟨x, hx, e⟩)
  unfold Proofs.Ytmfobfamdaajmaa.lx; rw [this]
set_option maxRecDepth 10000 in
theorem find_ok (w : World) (A : Option Addr) (c : Nat) (id : Int) (l : List Lv) (h : Hp) (own : List Nat) (w0 : World) (hs : Hp) (s : Sat w0 own hs w) (k : LOwn (.slice A l.length c) l h) (hh : h ⊆ hs) (hb : l.length ≤ 2513169434843) :
    Is Try.prog 48 [.slice A l.length c, .int .u64 id] w (.int .i64 (lx id l)) := by
  have hr : Rd w [] A (lrows l) := OwnS.rd k s hh (by simp)
  refine Does.pure (Does.of (n := 20) Try.func48 rfl rfl rfl rfl ?_)
  refine .seq ((.region (.v (.assign rfl) (.nil ?_))))
  refine .seq (.seq ((.region (.v (.assign rfl) (.nil ?_)))))
  refine .block (.loop (X := Nat) (fun i => [(0, .slice A l.length c), (1, .int .u64 id), (5, .int .i64 i)]) (fun _ => []) (fun i => i ≤ l.length ∧ ∀ j (hj : j < l.length), j < i → l[j].id ≠ id) (fun i => l.length - i) 0 ⟨by omega, fun _ _ h => by omega⟩ (.cons rfl (.cons rfl (.cons rfl (.nil _)))) (fun _ s => s) ?_)
  rintro i ⟨hi, hI⟩
  refine .seq (.seq ((.region (.v (.move rfl) (.v (.move rfl) (.v (.len rfl) (.v (.lss rfl rfl) (.nil ?_))))))))
  refine .cond_dec rfl (fun h1 => .skip ?_) (fun h1 => .exit ?_)
  · have hil : i < l.length := by omega
    obtain ⟨b, o, e, hbb, hc⟩ := hr.base (by rw [lrows_length]; omega)
    subst e
    refine .seq (.block (.seq ((.region (.v (.move rfl) (.v (.move rfl) (.v (.indexAddr rfl rfl (by omega) (by omega)) (.v (.fieldAddr rfl) (.v (.load (v := .int .u64 l[i].id) rfl (.old1 (by rw [Int.toNat_natCast]; exact hc (i * 5 + 0) (.int .u64 l[i].id) (by rw [lrows_get l i 0 hil (by omega)]; rfl)) (by simp [bl]))) (.v (.move rfl) (.v (.eqi rfl rfl) (.nil ?_))))))))))))
    refine .cond_dec rfl (fun h2 => ?_) (fun h2 => .skip ?_)
    · refine .seq ((.region (.v (.move rfl) (.v (.assign rfl) (.nil ?_)))))
      have ha : LAt l id i := ⟨hil, h2, hI⟩
      exact .ret ⟨[_], ⟨rfl, trivial⟩, by rw [ha.lx]; rfl⟩
    · refine .region (.v (.move rfl) (.v (.addi rfl rfl (by omega)) (.v (.assign rfl) (.nil ?_))))
      refine ⟨i + 1, ⟨by omega, fun j hj hji => ?_⟩, by omega, .cons rfl (.cons rfl (.cons rfl (.nil _))), fun _ s => s⟩
      by_cases e : j = i
      · subst e; exact h2
      · exact hI j hj (by omega)
  · refine .seq ((.region (.v (.assign rfl) (.nil ?_))))
    have hn : id ∉ lids l := fun hm => by
      obtain ⟨x, hx, e⟩ := List.mem_map.1 hm
      obtain ⟨j, hj, rfl⟩ := List.mem_iff_getElem.1 hx
      exact hI j hj (by omega) e
    exact .ret ⟨[_], ⟨rfl, trivial⟩, by rw [lx_no hn]; rfl⟩
end Go.Proofs.Ytmfobfamdaajmaa

/- VY: as VW; and what touches no memory may come up at any time. -/
namespace Go
namespace V
open Go.RowKit
set_option linter.unusedVariables false
set_option linter.unusedSimpArgs false

section
variable {P : Program} {ops : Array Oper} {Q : Exit → Act → World → Prop} {S : World → Prop} {z : Nat}
/-- number i may be taken first, if its value hangs on no world -/
theorem Upto.firstX {i : Nat} {oi : Oper} {v : Value} (hi : ops[i]? = some oi) (hsel : ∀ (j : Nat) (o : Oper) cs b, ops[j]? = some o → o.op ≠ .select cs b)
    (hQ : ∀ c a w, Q (.panic c) (a.put oi.dst v) w → Q (.panic c) a w) (hzi : z ≠ i) :
    ∀ (k : Nat) (l : Array Bool) (a : Act) (w : World),
      (∀ j oj, ops[j]? = some oj → j ≠ i → l.getD j true = false → (∀ e ∈ oj.after, Region.binds .any e = true → e.on ≠ i) → oi.apart ops oj = true) →
      i ∈ Region.ready .any ops l → YieldsIf P ops (fun _ => True) oi v a → (l.getD z true = false → S w) →
      Upto P ops Q S z k (l.setIfInBounds i true) (a.put oi.dst v) w → Upto P ops Q S z (k + 1) l a w := by
  intro k
  induction k with
  | zero =>
    intro l a w _ hr hy hS H
    refine ⟨fun h => absurd (h ▸ hr) List.not_mem_nil, fun j hj => ?_⟩
    rcases Decidable.em (j = i) with rfl | hji
    · exact hy.wpOp hi trivial ⟨fun hz => hS (by rw [getD_set_ne true (Ne.symm hzi)] at hz; exact hz), H⟩
    · exact absurd (H.1 ▸ ready_mono hj hji) List.not_mem_nil
  | succ k ih =>
    intro l a w hfree hr hy hS H
    refine ⟨fun h => absurd (h ▸ hr) List.not_mem_nil, fun j hj => ?_⟩
    rcases Decidable.em (j = i) with rfl | hji
    · exact hy.wpOp hi trivial ⟨fun hz => hS (by rw [getD_set_ne true (Ne.symm hzi)] at hz; exact hz), H⟩
    obtain ⟨hun, oj, hoj, hall⟩ := mem_ready.1 hj
    have hno : ∀ e ∈ oj.after, Region.binds .any e = true → e.on ≠ i := by
      intro e he hb hon
      exact not_both (z := j) hoj ⟨e, he, hb, hon⟩ hr hj
    have step := wpOp_putIf hoj (hfree j oj hoj hji hun hno) (fun cs b => hsel i oi cs b hi) (fun cs b => hsel j oj cs b hoj) hQ hy (H.2 j (ready_mono hj hji))
    refine wpOp_mono (fun a' w' ⟨hy', hS', hrest⟩ => ?_) step
    have e1 : ((l.setIfInBounds i true).setIfInBounds j true).getD z true = (l.setIfInBounds j true).getD z true := by
      rw [Array.setIfInBounds_comm _ _ (Ne.symm hji), getD_set_ne true (Ne.symm hzi)]
    have hS2 : (l.setIfInBounds j true).getD z true = false → S w' := fun hz => hS' (by rw [e1]; exact hz)
    refine ⟨hS2, ih (l.setIfInBounds j true) a' w' (fun m om hm hmi hun' hno' => ?_) (ready_mono hr (Ne.symm hji)) hy' hS2 ?_⟩
    · refine hfree m om hm hmi ?_ hno'
      rcases Decidable.em (j = m) with rfl | hjm
      · exact hun
      · rw [getD_set_ne true hjm] at hun'; exact hun'
    · rw [Array.setIfInBounds_comm _ _ hji]; exact hrest
end
/-- does the operation touch no memory? -/
def noMem (o : Oper) : Bool := match o.op with
  | .move _ => true
  | .indexAddr .. => true
  | .fieldAddr .. => true
  | .binOp .. => true
  | .extract .. => true
  | _ => false
section
variable {P : Program} {n : Nat} {w0 : World} {own : List Nat} {e : Env} {hs F : Hp} {ops : Array Oper} {K : Env → Hp → Prop} {z m : Nat} {listed : Array Bool}
variable {d : Nat} {ty : TypeId} {pos : String} {aft : Array Edge} {g : Option (Nat × Bool)}
theorem JZ.x {op : Op} {v : Value} (i : Nat) (hi : ops[i]? = some ⟨some d, op, ty, pos, aft, g⟩) (hf : firstB ops listed i = true) (hzi : z ≠ i)
    (h : ∀ w, Val P n w [] e [] op v) (k : JZ P n w0 own ops F z m (listed.setIfInBounds i true) ((d, v) :: e) hs K)
    (hdn : Nat.blt d n = true := by rfl) (hg : wantB ops e g = some true := by rfl) : JZ P n w0 own ops F z (m + 1) listed e hs K := by
  intro a w hr s hF
  unfold firstB at hf
  rw [Bool.and_eq_true, Bool.and_eq_true] at hf
  obtain ⟨⟨f1, f2⟩, f3⟩ := hf
  exact Upto.firstX hi (Region.noSelect_spec f1) (fun _ _ _ h => h) hzi m listed a w (Region.free_spec hi f2) (by simpa using f3)
    (.inl ⟨wanted_of hr hg, fun w' _ => h w' a w' _ _ _ _ _ hr (Sat.begin0 w')⟩) (fun hz => ⟨hs, s, hF hz⟩)
    (k _ _ (hr.put (Nat.le_of_ble_eq_true hdn) v) s fun hz => hF (by rw [getD_set_ne true (Ne.symm hzi)] at hz; exact hz))
end

def ordY (ops : Array Oper) (z : Nat) : List Oper → List Nat → Array Bool → Bool
  | [], [], _ => true
  | o :: l, i :: is, listed => (onlyB ops listed i || (!isEff o && firstZ ops z listed i) || (noMem o && firstB ops listed i && !Nat.beq z i)) && (o.dst.isSome || Nat.beq i z || listed.getD z true) && ordY ops z l is (listed.setIfInBounds i true)
  | _, _, _ => false
/-- the operations in their order; 'late': the first store has been -/
def JY (P : Program) (n : Nat) (w0 : World) (own : List Nat) (ops : Array Oper) (F : Hp) (z : Nat) (late : Bool) (l : List Oper) (e : Env) (hs : Hp) (K : Bool → Env → Hp → Prop) : Prop :=
  ∀ (m : Nat) (is : List Nat) (listed : Array Bool) (Z : Env → Hp → Prop), Nums ops l is → ordY ops z l is listed = true → listed.size = ops.size → listed.getD z true = late → (late = false → F ⊆ hs) →
    (∀ late' e' hs', (marks_ is listed).getD z true = late' → (late' = false → F ⊆ hs') → K late' e' hs' → JZ P n w0 own ops F z m (marks_ is listed) e' hs' Z) → JZ P n w0 own ops F z (l.length + m) listed e hs Z

theorem eff_mem {o : Oper} (h : isEff o = true) : noMem o = false := by
  unfold isEff at h; unfold noMem
  split <;> simp_all
section
variable {P : Program} {n : Nat} {w0 : World} {own : List Nat} {e : Env} {hs F : Hp} {ops : Array Oper} {rest l : List Oper} {K : Bool → Env → Hp → Prop} {z : Nat} {late : Bool} {m : Nat} {listed : Array Bool} {Z : Env → Hp → Prop}
variable {d : Nat} {ty : TypeId} {pos : String} {aft : Array Edge} {g : Option (Nat × Bool)}

theorem JC.drawY {id : Nat} {Q : Post} {l : List Oper} (z : Nat) (is : List Nat) (F : Hp) (hF : F ⊆ hs) (hm : P.follows .mixedOrders = true)
    (hB : (ordY l.toArray z (pickL l is) is (Array.replicate l.length false) && doneB l.toArray (marks_ is (Array.replicate l.length false)) && Nat.beq (pickL l is).length l.length && Nat.beq is.length l.length && Nat.blt z l.length) = true)
    (h : JY P n w0 own l.toArray F z false (pickL l is) e hs (fun _ e' hs' => Q .normal e' hs')) : JC P n w0 own (.region id l.toArray true) e hs Q := by
  rw [Bool.and_eq_true, Bool.and_eq_true, Bool.and_eq_true, Bool.and_eq_true] at hB
  obtain ⟨⟨⟨⟨h1, h2⟩, h3⟩, h4⟩, h5⟩ := hB
  have h3 := Nat.eq_of_beq_eq_true h3
  have h4 := Nat.eq_of_beq_eq_true h4
  have h5 : z < l.length := Nat.le_of_ble_eq_true h5
  have key : ∀ (is : List Nat), (pickL l is).length = is.length → Nums l.toArray (pickL l is) is := by
    intro is
    induction is with
    | nil => intro _; trivial
    | cons i is ih =>
      intro hl
      unfold pickL at hl ⊢
      cases ho : l[i]? with
      | none => rw [ho] at hl; simp at hl
      | some o =>
        rw [ho] at hl
        simp only at hl ⊢
        exact ⟨by simpa using ho, ih (by simpa using hl)⟩
  refine JC.drawZ z F hF hm ?_
  have := h 0 is (Array.replicate l.length false) (fun e hs => Q .normal e hs) (key _ (by omega)) h1 (by simp) (by simp [h5]) (fun _ => hF) (fun _ e' hs' _ _ ke => JZ.done h2 ke)
  rw [h3] at this
  simpa using this
theorem JY.nil (h : K late e hs) : JY P n w0 own ops F z late [] e hs K := fun m is listed Z hn _ hsz hl hF hz => by
  cases is with
  | nil => rw [List.length_nil, Nat.zero_add]; exact hz late e hs hl hF h
  | cons i is => exact hn.elim
theorem JY.mono {K' : Bool → Env → Hp → Prop} (h : JY P n w0 own ops F z late l e hs K) (kk : ∀ b e hs, K b e hs → K' b e hs) : JY P n w0 own ops F z late l e hs K' :=
  fun m k listed Z h1 h2 h3 h4 h5 hz => h m k listed Z h1 h2 h3 h4 h5 fun b e' hs' f1 f ke => hz b e' hs' f1 f (kk b e' hs' ke)
theorem JY.sub {e2 : Env} (hs' : Sub e2 e) (h : JY P n w0 own ops F z late l e2 hs K) : JY P n w0 own ops F z late l e hs K :=
  fun m k listed Z h1 h2 h3 h4 h5 hz a w hr s hF => h m k listed Z h1 h2 h3 h4 h5 hz a w (hr.sub hs') s hF
theorem JY.splitB {t : Nat} {b : Bool} (ht : get e t = some (.bool b)) (h1 : b = true → JY P n w0 own ops F z late l ((t, .bool true) :: e) hs K)
    (h0 : b = false → JY P n w0 own ops F z late l ((t, .bool false) :: e) hs K) : JY P n w0 own ops F z late l e hs K := by
  cases b
  · exact JY.sub (sub_same' ht) (h0 rfl)
  · exact JY.sub (sub_same' ht) (h1 rfl)
/-- a value, ahead of the first store -/
theorem JY.v {op : Op} {v : Value} (h : ∀ hs', F ⊆ hs' → Val P n w0 own e hs' op v) (kk : JY P n w0 own ops F z false rest ((d, v) :: e) hs K) (hdn : Nat.blt d n = true := by rfl) (hg : wantB ops e g = some true := by rfl)
    (hzo : ((ops[z]?).map (·.dst.isNone)) = some true := by rfl) (hx : noMem ⟨some d, op, ty, pos, aft, g⟩ = false := by rfl) :
    JY P n w0 own ops F z false (⟨some d, op, ty, pos, aft, g⟩ :: rest) e hs K := by
  intro m is listed Z h1 h2 h3 h4 h5 hz
  cases is with
  | nil => exact h1.elim
  | cons k is =>
  obtain ⟨h0, h1⟩ := h1
  unfold ordY at h2
  rw [Bool.and_eq_true, Bool.and_eq_true] at h2
  obtain ⟨⟨h2a, _⟩, h2b⟩ := h2
  rw [hx, Bool.false_and, Bool.false_and, Bool.or_false, Bool.or_eq_true, Bool.and_eq_true] at h2a
  have h2 := And.intro h2a h2b
  have hkz : k ≠ z := by rintro rfl; rw [h0] at hzo; simp at hzo
  have tail : JZ P n w0 own ops F z (rest.length + m) (listed.setIfInBounds k true) ((d, v) :: e) hs Z := kk m is _ Z h1 h2.2 (by simpa using h3) (set_lt h4 (.inr hkz)) h5 hz
  rw [show (⟨some d, op, ty, pos, aft, g⟩ :: rest : List Oper).length + m = (rest.length + m) + 1 from by simp; omega]
  rcases h2.1 with ho | ⟨_, hf⟩
  · exact JZ.v1 k h0 ho (h hs (h5 rfl)) tail rfl hdn hg
  · exact JZ.v k h0 hf h tail hdn hg
/-- a value behind it -/
theorem JY.w {op : Op} {v : Value} (h : Val P n w0 own e hs op v) (kk : JY P n w0 own ops F z true rest ((d, v) :: e) hs K) (hdn : Nat.blt d n = true := by rfl) (hg : wantB ops e g = some true := by rfl) (hx : noMem ⟨some d, op, ty, pos, aft, g⟩ = false := by rfl) :
    JY P n w0 own ops F z true (⟨some d, op, ty, pos, aft, g⟩ :: rest) e hs K := by
  intro m is listed Z h1 h2 h3 h4 h5 hz
  cases is with
  | nil => exact h1.elim
  | cons k is =>
  obtain ⟨h0, h1⟩ := h1
  unfold ordY at h2
  rw [Bool.and_eq_true, Bool.and_eq_true] at h2
  obtain ⟨⟨h2a, _⟩, h2b⟩ := h2
  rw [hx, Bool.false_and, Bool.false_and, Bool.or_false, Bool.or_eq_true, Bool.and_eq_true] at h2a
  have h2 := And.intro h2a h2b
  have tail : JZ P n w0 own ops F z (rest.length + m) (listed.setIfInBounds k true) ((d, v) :: e) hs Z := kk m is _ Z h1 h2.2 (by simpa using h3) (set_lt h4 (.inl rfl)) (fun h => by cases h) hz
  rw [show (⟨some d, op, ty, pos, aft, g⟩ :: rest : List Oper).length + m = (rest.length + m) + 1 from by simp; omega]
  rcases h2.1 with ho | ⟨_, hf⟩
  · exact JZ.v1 k h0 ho h tail rfl hdn hg
  · unfold firstZ at hf
    rw [h4] at hf
    simp at hf
/-- what touches no memory, at any time -/
theorem JY.x {op : Op} {v : Value} (h : ∀ w0 own hs, Val P n w0 own e hs op v) (kk : JY P n w0 own ops F z late rest ((d, v) :: e) hs K) (hdn : Nat.blt d n = true := by rfl) (hg : wantB ops e g = some true := by rfl)
    (hzo : ((ops[z]?).map (·.dst.isNone)) = some true := by rfl) :
    JY P n w0 own ops F z late (⟨some d, op, ty, pos, aft, g⟩ :: rest) e hs K := by
  intro m is listed Z h1 h2 h3 h4 h5 hz
  cases is with
  | nil => exact h1.elim
  | cons k is =>
  obtain ⟨h0, h1⟩ := h1
  unfold ordY at h2
  rw [Bool.and_eq_true, Bool.and_eq_true] at h2
  obtain ⟨⟨h2a, _⟩, h2b⟩ := h2
  rw [Bool.or_eq_true, Bool.or_eq_true, Bool.and_eq_true, Bool.and_eq_true, Bool.and_eq_true] at h2a
  have hkz : k ≠ z := by rintro rfl; rw [h0] at hzo; simp at hzo
  have tail : JZ P n w0 own ops F z (rest.length + m) (listed.setIfInBounds k true) ((d, v) :: e) hs Z := kk m is _ Z h1 h2b (by simpa using h3) (set_lt h4 (.inr hkz)) h5 hz
  rw [show (⟨some d, op, ty, pos, aft, g⟩ :: rest : List Oper).length + m = (rest.length + m) + 1 from by simp; omega]
  rcases h2a with (ho | ⟨_, hf⟩) | ⟨⟨_, hf⟩, _⟩
  · exact JZ.v1 k h0 ho (h _ _ _) tail rfl hdn hg
  · exact JZ.v k h0 hf (fun hs' _ => h _ _ _) tail hdn hg
  · exact JZ.x k h0 hf (Ne.symm hkz) (fun w => h _ _ _) tail hdn hg
/-- what works on memory, and leaves a value -/
theorem JY.ef {op : Op} {R : Value → Hp → Prop} (h : Eff P n w0 own e hs op R) (hF : ∀ v hs', R v hs' → F ⊆ hs → F ⊆ hs') (kk : ∀ v hs', R v hs' → JY P n w0 own ops F z late rest ((d, v) :: e) hs' K)
    (hE : isEff ⟨some d, op, ty, pos, aft, g⟩ = true := by rfl) (hdn : Nat.blt d n = true := by rfl) (hg : wantB ops e g = some true := by rfl) (hzo : ((ops[z]?).map (·.dst.isNone)) = some true := by rfl) : JY P n w0 own ops F z late (⟨some d, op, ty, pos, aft, g⟩ :: rest) e hs K := by
  intro m is listed Z h1 h2 h3 h4 h5 hz
  cases is with
  | nil => exact h1.elim
  | cons k is =>
  obtain ⟨h0, h1⟩ := h1
  unfold ordY at h2
  rw [Bool.and_eq_true, Bool.and_eq_true] at h2
  obtain ⟨⟨h2a, _⟩, h2b⟩ := h2
  rw [Bool.or_eq_true, Bool.or_eq_true, hE, eff_mem hE] at h2a
  have h2 := And.intro h2a h2b
  have hkz : k ≠ z := by rintro rfl; rw [h0] at hzo; simp at hzo
  have ho : onlyB ops listed k = true := by
    rcases h2.1 with (h | h) | h
    · exact h
    · simp at h
    · simp at h
  rw [show (⟨some d, op, ty, pos, aft, g⟩ :: rest : List Oper).length + m = (rest.length + m) + 1 from by simp; omega]
  exact JZ.ef k h0 ho h (fun v hs' r => kk v hs' r m is _ Z h1 h2.2 (by simpa using h3) (set_lt h4 (.inr hkz)) (fun e => hF v hs' r (h5 e)) hz) hF rfl hdn hg
/-- the first store -/
theorem JY.st {op : Op} {hs' : Hp} (h : Eff P n w0 own e hs op (fun v h => v = undef ∧ h = hs')) (kk : JY P n w0 own ops F z true rest e hs' K)
    (hE : isEff ⟨none, op, ty, pos, aft, g⟩ = true := by rfl) (hg : wantB ops e g = some true := by rfl) : JY P n w0 own ops F z false (⟨none, op, ty, pos, aft, g⟩ :: rest) e hs K := by
  intro m is listed Z h1 h2 h3 h4 h5 hz
  cases is with
  | nil => exact h1.elim
  | cons k is =>
  obtain ⟨h0, h1⟩ := h1
  unfold ordY at h2
  rw [Bool.and_eq_true, Bool.and_eq_true] at h2
  obtain ⟨⟨h2a, h2c⟩, h2b⟩ := h2
  rw [Bool.or_eq_true, Bool.or_eq_true, hE, eff_mem hE] at h2a
  have h2 := And.intro h2a h2b
  obtain rfl : k = z := by
    rw [h4] at h2c
    exact Nat.eq_of_beq_eq_true (by simpa using h2c)
  have ho : onlyB ops listed k = true := by
    rcases h2.1 with (h | h) | h
    · exact h
    · simp at h
    · simp at h
  have hk : k < listed.size := by rw [h3]; exact (Array.getElem?_eq_some_iff.1 h0).1
  rw [show (⟨none, op, ty, pos, aft, g⟩ :: rest : List Oper).length + m = (rest.length + m) + 1 from by simp; omega]
  refine JZ.st h0 ho (Nat.ble_eq_true_of_le hk) h (kk m is _ Z h1 h2.2 (by simpa using h3) (by simp [hk]) (fun h => by cases h) hz) hg
/-- a store behind it -/
theorem JY.st2 {op : Op} {hs' : Hp} (h : Eff P n w0 own e hs op (fun v h => v = undef ∧ h = hs')) (kk : JY P n w0 own ops F z true rest e hs' K)
    (hE : isEff ⟨none, op, ty, pos, aft, g⟩ = true := by rfl) (hg : wantB ops e g = some true := by rfl) : JY P n w0 own ops F z true (⟨none, op, ty, pos, aft, g⟩ :: rest) e hs K := by
  intro m is listed Z h1 h2 h3 h4 h5 hz
  cases is with
  | nil => exact h1.elim
  | cons k is =>
  obtain ⟨h0, h1⟩ := h1
  unfold ordY at h2
  rw [Bool.and_eq_true, Bool.and_eq_true] at h2
  obtain ⟨⟨h2a, h2c⟩, h2b⟩ := h2
  rw [Bool.or_eq_true, Bool.or_eq_true, hE, eff_mem hE] at h2a
  have h2 := And.intro h2a h2b
  have ho : onlyB ops listed k = true := by
    rcases h2.1 with (h | h) | h
    · exact h
    · simp at h
    · simp at h
  rw [show (⟨none, op, ty, pos, aft, g⟩ :: rest : List Oper).length + m = (rest.length + m) + 1 from by simp; omega]
  have hl := set_lt (k := k) (listed := listed) (z := z) h4 (.inl rfl)
  rcases Decidable.em (z = k) with rfl | hne
  · -- z has been: it cannot come up again
    have hr : Region.ready .any ops listed = [z] := by simpa [onlyB] using ho
    have hm : z ∈ Region.ready .any ops listed := by rw [hr]; simp
    obtain ⟨hu, _⟩ := mem_ready.1 hm
    have hk : z < listed.size := by rw [h3]; exact (Array.getElem?_eq_some_iff.1 h0).1
    simp [hk] at hu h4
    rw [hu] at h4; cases h4
  · exact JZ.st2 k h0 ho h4 (by cases h : Nat.beq z k; rfl; exact absurd (Nat.eq_of_beq_eq_true h) hne) h (kk m is _ Z h1 h2.2 (by simpa using h3) hl (fun h => by cases h) hz) hg
end
/-- number i comes up now -/
def JS (P : Program) (n : Nat) (w0 : World) (own : List Nat) (ops : Array Oper) (F : Hp) (m : Nat) (listed : Array Bool) (e : Env) (hs : Hp) (K : Env → Hp → Prop) (i : Nat) : Prop :=
  ∀ a w, Rep n a e → Sat w0 own hs w → F ⊆ hs →
    wpOp P ops (QN fun a' w' => ∃ e' hs', Rep n a' e' ∧ Sat w0 own hs' w' ∧ K e' hs') i (fun a' w' => Keeps w0 own F w' ∧ wpAnyH P .any ops (QN fun a' w' => ∃ e' hs', Rep n a' e' ∧ Sat w0 own hs' w' ∧ K e' hs') (Keeps w0 own F) m (listed.setIfInBounds i true) a' w') a w
section
variable {P : Program} {n : Nat} {w0 : World} {own : List Nat} {e : Env} {hs F : Hp} {ops : Array Oper} {K : Env → Hp → Prop} {m : Nat} {listed : Array Bool}
variable {d : Nat} {ty : TypeId} {pos : String} {aft : Array Edge} {g : Option (Nat × Bool)}
/-- any of those that may come up -/
theorem JD.two (i j : Nat) (hr : (Region.ready .any ops listed == [i, j]) = true) (h1 : JS P n w0 own ops F m listed e hs K i) (h2 : JS P n w0 own ops F m listed e hs K j) : JD P n w0 own ops F (m + 1) listed e hs K := by
  intro a w hr' s hf
  refine wpAnyH_all (rs := [i, j]) (by simpa using hr) (by simp) fun k hk => ?_
  simp only [List.mem_cons, List.not_mem_nil, or_false] at hk
  rcases hk with rfl | rfl
  · exact h1 a w hr' s hf
  · exact h2 a w hr' s hf
theorem JD.one (i : Nat) (hr : onlyB ops listed i = true) (h1 : JS P n w0 own ops F m listed e hs K i) : JD P n w0 own ops F (m + 1) listed e hs K := by
  intro a w hr' s hf
  refine wpAnyH_all (rs := [i]) (by simpa [onlyB] using hr) (by simp) fun k hk => ?_
  simp only [List.mem_singleton] at hk
  subst hk
  exact h1 a w hr' s hf
theorem JS.v {i : Nat} {op : Op} {v : Value} (hi : ops[i]? = some ⟨some d, op, ty, pos, aft, g⟩) (h : Val P n w0 own e hs op v) (k : JD P n w0 own ops F m (listed.setIfInBounds i true) ((d, v) :: e) hs K)
    (hdn : Nat.blt d n = true := by rfl) (hg : wantB ops e g = some true := by rfl) : JS P n w0 own ops F m listed e hs K i := by
  intro a w hr s hf
  unfold wpOp
  simp only [hi]
  rw [if_pos (wanted_of hr hg)]
  exact .inl (h.eff a w _ _ _ _ _ _ _ hr s fun v' hs' w' ⟨e1, e2⟩ s' => by
    subst e1; subst e2
    exact ⟨⟨_, s', hf⟩, k _ _ (hr.put (Nat.le_of_ble_eq_true hdn) _) s' hf⟩)
theorem JS.st {i : Nat} {op : Op} {hs' : Hp} (hi : ops[i]? = some ⟨none, op, ty, pos, aft, g⟩) (h : Eff P n w0 own e hs op (fun v h => v = undef ∧ h = hs')) (hF : F ⊆ hs') (k : JD P n w0 own ops F m (listed.setIfInBounds i true) e hs' K)
    (hg : wantB ops e g = some true := by rfl) : JS P n w0 own ops F m listed e hs K i := by
  intro a w hr s hf
  unfold wpOp
  simp only [hi]
  rw [if_pos (wanted_of hr hg)]
  exact .inl (h a w _ _ _ _ _ _ _ hr s fun v' h' w' ⟨_, e2⟩ s' => by
    subst e2
    exact ⟨⟨_, s', hF⟩, k _ _ (hr.put_none _) s' hF⟩)
end
end V
end Go

/- The accounts of what a book told. -/
namespace Go.Proofs.Ytmfobfamdaajmaa
open Go.V
set_option linter.unusedVariables false
set_option linter.unusedSimpArgs false

set_option maxRecDepth 10000 in
set_option maxHeartbeats 1000000 in
theorem counted_ok (w : World) (v0 : Value) (l0 : List Lv) (h0 : Hp) (hk : LOwn v0 l0 h0) (Ae : Option Addr) (ce : Nat) (evs : List Ev) (hE : Rd w (bl h0) Ae (erows evs)) (lz : List Lv) (hcs : Cs l0 evs lz) (hb : l0.length + evs.length ≤ 2000000000000) :
    Does Try.prog 24 [v0, .slice Ae evs.length ce] h0 w (fun u hs => ∃ v', u = .tuple ⟨[v', .bool true]⟩ ∧ LOwn v' lz hs) := by
  refine Does.of (n := 188) Try.func24 rfl rfl rfl rfl ?_
  refine .seq ((.region (.v (.assign rfl) (.v (.assign rfl) (.nil ?_)))))
  refine .seq (.seq ((.region (.v (.assign rfl) (.nil ?_)))))
  refine .block (.loop (X := Nat × List Lv × Value × Hp) (fun x => [(0, x.2.2.1), (1, .slice Ae evs.length ce), (6, .int .i64 x.1)]) (fun x => x.2.2.2) (fun x => x.1 ≤ evs.length ∧ x.2.1.length ≤ l0.length + x.1 ∧ Cs x.2.1 (evs.drop x.1) lz ∧ LOwn x.2.2.1 x.2.1 x.2.2.2) (fun x => evs.length - x.1)
    (0, l0, v0, h0) ⟨by simp, by simp, by simpa using hcs, hk⟩ (.cons rfl (.cons rfl (.cons rfl (.nil _)))) (fun _ s => s) ?_)
  rintro ⟨j, l, v, h⟩ ⟨hj, hlen, hcl, k⟩
  dsimp only at hj hlen hcl k ⊢
  obtain ⟨A, c, rfl⟩ := OwnS.sl k
  refine .seq (.seq ((.region (.v (.move rfl) (.v (.move rfl) (.v (.len rfl) (.v (.lss rfl rfl) (.nil ?_))))))))
  refine .cond_dec rfl (fun h1 => .skip ?_) (fun h1 => .exit ?_)
  · have hjl : j < evs.length := by omega
    obtain ⟨be, oe, e1, hbe, hce⟩ := hE.base (by rw [erows_length]; omega)
    subst e1
    rw [drop_at hjl] at hcl
    have hev : ∀ (k : Nat) (v : Value) (hs : Hp), k < 13 → (evs[j].cells)[k]? = some v → At w (bl h0) hs ⟨be, oe + j * 13 + k, none⟩ [v] := fun k v hs hk hv => .old1 (by rw [Nat.add_assoc]; exact hce (j * 13 + k) v (by rw [erows_get evs j k hjl hk]; exact hv)) hbe
    generalize evs[j] = e at hcl hev
    cases hcl with
    | @cons _ l' _ _ _ c1 ctl =>
    have hl' : l'.length ≤ l0.length + (j + 1) := by cases c1 <;> (try simp) <;> omega
    have fin : ∀ (v' : Value) (h' : Hp), LOwn v' l' h' → ∃ x : Nat × List Lv × Value × Hp, (x.1 = j ∧ x.2.1 = l' ∧ LOwn x.2.2.1 x.2.1 x.2.2.2) ∧ x.2.2.1 = v' ∧ x.2.2.2 = h' := fun v' h' k' => ⟨(j, l', v', h'), ⟨rfl, rfl, k'⟩, rfl, rfl⟩
    refine .mid (X := Value × Hp) (fun x => [(0, x.1), (1, .slice (some ⟨be, oe, none⟩) evs.length ce), (6, .int .i64 j)]) (fun x => x.2) (fun x => LOwn x.1 l' x.2) (.block (.seq ((.region (.v (.move rfl) (.v (.move rfl) (.v (.indexAddr rfl rfl (by omega) (by omega)) (.v (.fieldAddr rfl) (.v (.load (v := .int .i64 e.kind) rfl (hev 1 _ _ (by omega) rfl)) (.nil ?_)))))))))) ?_
    · refine .block (.seq ((.region (.v (.eqi rfl rfl) (.v (.assign rfl) (.nil ?_))))))
      cases c1 with
      | ack hk1 hn =>
        refine .cond_dec rfl (fun h2 => ?_) (fun h2 => absurd hk1 h2)
        refine .seq (.seq ((.region (.v (.move rfl) (.v (.move rfl) (.v (.move rfl) (.v (.indexAddr rfl rfl (by omega) (by omega)) (.v (.fieldAddr rfl) (.v (.load (v := .int .u64 e.id) rfl (hev 2 _ _ (by omega) rfl)) ?_)))))))))
        refine .pc (v := .int .i64 (-1)) rfl rfl (fun w s => by rw [← lx_no hn]; exact find_ok w A c e.id l h _ _ _ s k (fun _ h => h) (by omega)) ?_
        refine .v (.geq rfl rfl) (.nil ?_)
        refine .cond rfl (fun h => absurd h (by simp)) (fun _ => .skip ?_)
        refine (.drawK [] (fun _ h => (List.not_mem_nil h).elim) (by kernel_rfl) (by kernel_rfl) ?_)
        refine .v (fun _ f => .move rfl) (.v (fun _ f => .move rfl) (.v (fun _ f => .move rfl) (.v (fun _ f => .indexAddr rfl rfl (by omega) (by omega)) (.v (fun _ f => .fieldAddr rfl) (.v (fun _ f => .load (v := .int .u64 e.id) rfl (hev 2 _ _ (by omega) rfl)) (.v (fun _ f => .move rfl) (.v (fun _ f => .move rfl) (.v (fun _ f => .indexAddr rfl rfl (by omega) (by omega)) (.v (fun _ f => .fieldAddr rfl) (.v (fun _ f => .load (v := .int .u64 e.q) rfl (hev 9 _ _ (by omega) rfl)) (.v (fun _ f => .move rfl) (.v (fun _ f => .move rfl) (.v (fun _ f => .indexAddr rfl rfl (by omega) (by omega)) (.v (fun _ f => .fieldAddr rfl) (.v (fun _ f => .load (v := .int .i64 e.ty) rfl (hev 7 _ _ (by omega) rfl)) (.v (fun _ f => .build (out := [.int .u64 e.id, .int .u64 e.q, .int .u64 0, .int .u64 0, .int .i64 e.ty]) rfl rfl) ?_))))))))))))))))
        refine .ef (.buildSlice (out := [.int .u64 e.id, .int .u64 e.q, .int .u64 0, .int .u64 0, .int .i64 e.ty]) rfl (by decide) rfl rfl) (fun _ _ _ _ => fun _ h => (List.not_mem_nil h).elim) ?_
        rintro _ _ ⟨nb, rfl, rfl⟩
        refine .ef (.append (c := l.length) (k := 1) (vs := lrows l) (news := [.int .u64 e.id, .int .u64 e.q, .int .u64 0, .int .u64 0, .int .i64 e.ty]) (h := h) (fr := [(nb, .cells [.int .u64 e.id, .int .u64 e.q, .int .u64 0, .int .u64 0, .int .i64 e.ty] 61)]) rfl rfl k (by exact List.perm_append_comm (l₁ := [_]))
          (fun w s => Src.cells rfl (fun j v hv => by rw [add_none, s.cell (b := nb) (T := 61) (l := [.int .u64 e.id, .int .u64 e.q, .int .u64 0, .int .u64 0, .int .i64 e.ty]) (by simp)]; simpa using hv)) rfl rfl (by omega) (by omega)) (fun _ _ _ _ => fun _ h => (List.not_mem_nil h).elim) ?_
        rintro v' _ ⟨h', o', rfl⟩
        refine .v (fun _ f => .assign rfl) (.nil ?_)
        have o2 : LOwn v' (l ++ [⟨e.id, e.q, 0, 0, e.ty⟩]) h' := by
          unfold LOwn
          rw [lrows_app, List.length_append]; exact o'
        exact ⟨(v', h'), o2, .cons rfl (.cons rfl (.cons rfl (.nil _))), fun _ s => Sat.take (pre := h') s⟩
      | other hk3 =>
        refine .cond_dec rfl (fun h2 => absurd h2 hk3.1) (fun h2 => ?_)
        refine .seq (.seq ((.region (.v (.eqi rfl rfl) (.v (.assign rfl) (.nil ?_))))))
        refine .cond_dec rfl (fun h4 => absurd h4 hk3.2.1) (fun h4 => ?_)
        refine .region (.v (.eqi rfl rfl) (.v (.assign rfl) (.nil ?_)))
        refine .cond_dec rfl (fun h5 => absurd h5 hk3.2.2) (fun h5 => .skip ?_)
        exact ⟨(.slice A l.length c, h), k, .cons rfl (.cons rfl (.cons rfl (.nil _))), fun _ s => s⟩
      | can hk4 a ha hq hr =>
        obtain ⟨b, o, ll, rfl, -, rfl, hcc, hcap, -⟩ := k.some_ (by have := ha.lt; omega)
        have hal := ha.lt
        have hlx := ha.lx
        have hld : ∀ (k' : Nat) (v : Value) (w0 : World) (own : List Nat) (hs : Hp), [(b, Ch.cells ll 61)] ⊆ hs → k' < 5 → (l[a].cells)[k']? = some v → At w0 own hs ⟨b, o + a * 5 + k', none⟩ [v] := fun k' v w0 own hs hh hk' hv => k.ld hh hal hk' hv
        obtain ⟨hr1, hr2, hr3, hr4⟩ := hr
        have hbnd : o + a * 5 + 5 ≤ ll.length := by
          have : (a + 1) * 5 ≤ c * 5 := Nat.mul_le_mul_right _ (by omega)
          omega
        refine .cond_dec rfl (fun h2 => absurd h2 (by omega)) (fun h2 => ?_)
        refine .seq (.seq ((.region (.v (.eqi rfl rfl) (.v (.assign rfl) (.nil ?_))))))
        refine .cond_dec rfl (fun h4 => absurd h4 (by omega)) (fun h4 => ?_)
        refine .region (.v (.eqi rfl rfl) (.v (.assign rfl) (.nil ?_)))
        refine .cond_dec rfl (fun h5 => ?_) (fun h5 => absurd hk4 h5)
        refine .seq ((.region (.v (.move rfl) (.v (.move rfl) (.v (.move rfl) (.v (.indexAddr rfl rfl (by omega) (by omega)) (.v (.fieldAddr rfl) (.v (.load (v := .int .u64 e.id) rfl (hev 2 _ _ (by omega) rfl)) ?_))))))))
        refine .pc (v := .int .i64 (a : Int)) rfl rfl (fun w s => by rw [← hlx]; exact find_ok w _ c e.id l _ _ _ _ s k (fun _ h => h) (by omega)) ?_
        refine .v (.assign rfl) (.nil ?_)
        refine .seq (.seq ((.drawK _ (fun _ h => h) (by kernel_rfl) (by kernel_rfl) ?_)))
        refine .v (fun _ f => .move rfl) (.v (fun _ f => .lss rfl rfl) (.v (fun _ f => .move rfl) (.or 62 68 6 6 rfl rfl (fun g1 => .v (fun _ f => .move rfl) (.v (fun _ f => .move rfl) (.v (fun _ f => .indexAddr rfl rfl (by omega) (by omega)) (.v (fun _ f => .fieldAddr rfl) (.v (fun _ f => .load (v := .int .u64 e.q) rfl (hev 9 _ _ (by omega) rfl)) (.v (fun _ f => .eqi rfl rfl) (.nil ⟨rfl, rfl, rfl, rfl⟩))))))) (.v (fun _ f => .move rfl) ?_))))
        refine .or 70 93 23 23 rfl rfl (fun g2 => .v (fun _ f => .move rfl) (.v (fun _ f => .move rfl) (.v (fun _ f => .indexAddr rfl rfl (by omega) (by omega)) (.v (fun _ f => .fieldAddr rfl) (.v (fun _ f => .load (v := .int .u64 l[a].tr) rfl (hld 2 _ _ _ _ f (by omega) rfl)) (.v (fun _ f => .move rfl) (.v (fun _ f => .move rfl) (.v (fun _ f => .indexAddr rfl rfl (by omega) (by omega)) (.v (fun _ f => .fieldAddr rfl) (.v (fun _ f => .load (v := .int .u64 l[a].ca) rfl (hld 3 _ _ _ _ f (by omega) rfl)) (.v (fun _ f => .addU (l[a].tr + l[a].ca) rfl rfl rfl (by omega)) (.v (fun _ f => .move rfl) (.v (fun _ f => .move rfl) (.v (fun _ f => .indexAddr rfl rfl (by omega) (by omega)) (.v (fun _ f => .fieldAddr rfl) (.v (fun _ f => .load (v := .int .u64 e.q) rfl (hev 9 _ _ (by omega) rfl)) (.v (fun _ f => .addU (l[a].tr + l[a].ca + e.q) rfl rfl rfl (by omega)) (.v (fun _ f => .move rfl) (.v (fun _ f => .move rfl) (.v (fun _ f => .indexAddr rfl rfl (by omega) (by omega)) (.v (fun _ f => .fieldAddr rfl) (.v (fun _ f => .load (v := .int .u64 l[a].qty) rfl (hld 1 _ _ _ _ f (by omega) rfl)) (.v (fun _ f => .gtr rfl rfl) (.nil ⟨rfl, rfl, rfl, rfl⟩)))))))))))))))))))))))) (.nil ?_)
        refine .cond rfl (fun h => ?_) (fun _ => .skip ?_)
        · exfalso
          simp only [Bool.and_eq_true, Bool.or_eq_true, Bool.not_eq_true', Bool.and_eq_false_iff, Bool.or_eq_false_iff, Bool.not_eq_false', decide_eq_true_eq, decide_eq_false_iff_not, Bool.false_eq_true, false_iff] at h; omega
        refine .seq (.seq ((.region (.v (.move rfl) (.v (.move rfl) (.v (.indexAddr rfl rfl (by omega) (by omega)) (.v (.fieldAddr rfl) (.v (.load (v := .int .i64 e.kind) rfl (hev 1 _ _ (by omega) rfl)) (.v (.eqi rfl rfl) (.nil ?_))))))))))
        refine .cond_dec rfl (fun h7 => ?_) (fun h7 => absurd hk4 h7)
        refine .seq ((.drawQ 15 [0, 1, 2, 3, 4, 5, 6, 7, 8, 9, 10, 11, 12, 13, 14, 15] _ (fun _ h => h) (by kernel_rfl) (by kernel_rfl) ?_))
        refine .v (fun _ f => .move rfl) (.v (fun _ f => .move rfl) (.v (fun _ f => .move rfl) (.v (fun _ f => .move rfl) (.v (fun _ f => .indexAddr rfl rfl (by omega) (by omega)) (.v (fun _ f => .fieldAddr rfl) (.v (fun _ f => .load (v := .int .u64 l[a].ca) rfl (hld 3 _ _ _ _ f (by omega) rfl)) (.v (fun _ f => .move rfl) (.v (fun _ f => .move rfl) (.v (fun _ f => .indexAddr rfl rfl (by omega) (by omega)) (.v (fun _ f => .fieldAddr rfl) (.v (fun _ f => .load (v := .int .u64 e.q) rfl (hev 9 _ _ (by omega) rfl)) (.v (fun _ f => .addU (l[a].ca + e.q) rfl rfl rfl (by omega)) (.v (fun _ f => .indexAddr rfl rfl (by omega) (by omega)) (.v (fun _ f => .fieldAddr rfl) (.st (.store rfl rfl rfl (by rw [Int.toNat_natCast]; omega)) (.nil ?_))))))))))))))))
        refine .exit ?_
        have k2 := OwnS.setAt (v := .int .u64 (l[a].ca + e.q)) k (i := a * 5 + 3) (by omega)
        rw [lrows_set (y := l[a].more 0 e.q) hal (by omega) (by simp [Lv.cells, Lv.more]), ← Nat.add_assoc] at k2
        exact ⟨(.slice (some ⟨b, o, none⟩) l.length c, [(b, .cells (ll.set (o + a * 5 + 3) (.int .u64 (l[a].ca + e.q))) 61)]), by unfold LOwn; rw [List.length_set]; exact k2, .cons rfl (.cons rfl (.cons rfl (.nil _))), fun _ s => s⟩
      | tra hk3 a a' ha hb' hab hq hr hr' =>
        obtain ⟨b, o, ll, rfl, -, rfl, hcc, hcap, -⟩ := k.some_ (by have := ha.lt; omega)
        have hal := ha.lt
        have hbl := hb'.lt
        have hlx := ha.lx
        have hlx' := hb'.lx
        have hld : ∀ (k' : Nat) (v : Value) (w0 : World) (own : List Nat) (hs : Hp), [(b, Ch.cells ll 61)] ⊆ hs → k' < 5 → (l[a].cells)[k']? = some v → At w0 own hs ⟨b, o + a * 5 + k', none⟩ [v] := fun k' v w0 own hs hh hk' hv => k.ld hh hal hk' hv
        have hldb : ∀ (k' : Nat) (v : Value) (w0 : World) (own : List Nat) (hs : Hp), [(b, Ch.cells ll 61)] ⊆ hs → k' < 5 → (l[a'].cells)[k']? = some v → At w0 own hs ⟨b, o + a' * 5 + k', none⟩ [v] := fun k' v w0 own hs hh hk' hv => k.ld hh hbl hk' hv
        obtain ⟨hr1, hr2, hr3, hr4⟩ := hr
        obtain ⟨hs1, hs2, hs3, hs4⟩ := hr'
        have hbnd : o + a * 5 + 5 ≤ ll.length := by
          have : (a + 1) * 5 ≤ c * 5 := Nat.mul_le_mul_right _ (by omega)
          omega
        have hbnd' : o + a' * 5 + 5 ≤ ll.length := by
          have : (a' + 1) * 5 ≤ c * 5 := Nat.mul_le_mul_right _ (by omega)
          omega
        refine .cond_dec rfl (fun h2 => absurd h2 (by omega)) (fun h2 => ?_)
        refine .seq (.seq ((.region (.v (.eqi rfl rfl) (.v (.assign rfl) (.nil ?_))))))
        refine .cond_dec rfl (fun h4 => .skip ?_) (fun h4 => absurd hk3 h4)
        refine .cond_dec rfl (fun h5 => ?_) (fun h5 => absurd hk3 h5)
        refine .seq ((.region (.v (.move rfl) (.v (.move rfl) (.v (.move rfl) (.v (.indexAddr rfl rfl (by omega) (by omega)) (.v (.fieldAddr rfl) (.v (.load (v := .int .u64 e.id) rfl (hev 2 _ _ (by omega) rfl)) ?_))))))))
        refine .pc (v := .int .i64 (a : Int)) rfl rfl (fun w s => by rw [← hlx]; exact find_ok w _ c e.id l _ _ _ _ s k (fun _ h => h) (by omega)) ?_
        refine .v (.assign rfl) (.nil ?_)
        refine .seq (.seq ((.drawK _ (fun _ h => h) (by kernel_rfl) (by kernel_rfl) ?_)))
        refine .v (fun _ f => .move rfl) (.v (fun _ f => .lss rfl rfl) (.v (fun _ f => .move rfl) (.or 62 68 6 6 rfl rfl (fun g1 => .v (fun _ f => .move rfl) (.v (fun _ f => .move rfl) (.v (fun _ f => .indexAddr rfl rfl (by omega) (by omega)) (.v (fun _ f => .fieldAddr rfl) (.v (fun _ f => .load (v := .int .u64 e.q) rfl (hev 9 _ _ (by omega) rfl)) (.v (fun _ f => .eqi rfl rfl) (.nil ⟨rfl, rfl, rfl, rfl⟩))))))) (.v (fun _ f => .move rfl) ?_))))
        refine .or 70 93 23 23 rfl rfl (fun g2 => .v (fun _ f => .move rfl) (.v (fun _ f => .move rfl) (.v (fun _ f => .indexAddr rfl rfl (by omega) (by omega)) (.v (fun _ f => .fieldAddr rfl) (.v (fun _ f => .load (v := .int .u64 l[a].tr) rfl (hld 2 _ _ _ _ f (by omega) rfl)) (.v (fun _ f => .move rfl) (.v (fun _ f => .move rfl) (.v (fun _ f => .indexAddr rfl rfl (by omega) (by omega)) (.v (fun _ f => .fieldAddr rfl) (.v (fun _ f => .load (v := .int .u64 l[a].ca) rfl (hld 3 _ _ _ _ f (by omega) rfl)) (.v (fun _ f => .addU (l[a].tr + l[a].ca) rfl rfl rfl (by omega)) (.v (fun _ f => .move rfl) (.v (fun _ f => .move rfl) (.v (fun _ f => .indexAddr rfl rfl (by omega) (by omega)) (.v (fun _ f => .fieldAddr rfl) (.v (fun _ f => .load (v := .int .u64 e.q) rfl (hev 9 _ _ (by omega) rfl)) (.v (fun _ f => .addU (l[a].tr + l[a].ca + e.q) rfl rfl rfl (by omega)) (.v (fun _ f => .move rfl) (.v (fun _ f => .move rfl) (.v (fun _ f => .indexAddr rfl rfl (by omega) (by omega)) (.v (fun _ f => .fieldAddr rfl) (.v (fun _ f => .load (v := .int .u64 l[a].qty) rfl (hld 1 _ _ _ _ f (by omega) rfl)) (.v (fun _ f => .gtr rfl rfl) (.nil ⟨rfl, rfl, rfl, rfl⟩)))))))))))))))))))))))) (.nil ?_)
        refine .cond rfl (fun h => ?_) (fun _ => .skip ?_)
        · exfalso
          simp only [Bool.and_eq_true, Bool.or_eq_true, Bool.not_eq_true', Bool.and_eq_false_iff, Bool.or_eq_false_iff, Bool.not_eq_false', decide_eq_true_eq, decide_eq_false_iff_not, Bool.false_eq_true, false_iff] at h; omega
        refine .seq (.seq ((.region (.v (.move rfl) (.v (.move rfl) (.v (.indexAddr rfl rfl (by omega) (by omega)) (.v (.fieldAddr rfl) (.v (.load (v := .int .i64 e.kind) rfl (hev 1 _ _ (by omega) rfl)) (.v (.eqi rfl rfl) (.nil ?_))))))))))
        refine .cond_dec rfl (fun h7 => absurd h7 (by omega)) (fun h7 => .skip ?_)
        refine .seq ((.region (.v (.move rfl) (.v (.move rfl) (.v (.move rfl) (.v (.indexAddr rfl rfl (by omega) (by omega)) (.v (.fieldAddr rfl) (.v (.load (v := .int .u64 e.other) rfl (hev 3 _ _ (by omega) rfl)) ?_))))))))
        refine .pc (v := .int .i64 (a' : Int)) rfl rfl (fun w s => by rw [← hlx']; exact find_ok w _ c e.other l _ _ _ _ s k (fun _ h => h) (by omega)) ?_
        refine .v (.assign rfl) (.nil ?_)
        refine .seq (.seq ((.drawK _ (fun _ h => h) (by kernel_rfl) (by kernel_rfl) ?_)))
        refine .v (fun _ f => .move rfl) (.v (fun _ f => .lss rfl rfl) (.v (fun _ f => .move rfl) (.or 126 129 3 3 rfl rfl (fun g3 => .v (fun _ f => .move rfl) (.v (fun _ f => .move rfl) (.v (fun _ f => .eqi rfl rfl) (.nil ⟨rfl, rfl, rfl, rfl⟩)))) (.v (fun _ f => .move rfl) ?_))))
        refine .or 131 154 23 23 rfl rfl (fun g4 => .v (fun _ f => .move rfl) (.v (fun _ f => .move rfl) (.v (fun _ f => .indexAddr rfl rfl (by omega) (by omega)) (.v (fun _ f => .fieldAddr rfl) (.v (fun _ f => .load (v := .int .u64 l[a'].tr) rfl (hldb 2 _ _ _ _ f (by omega) rfl)) (.v (fun _ f => .move rfl) (.v (fun _ f => .move rfl) (.v (fun _ f => .indexAddr rfl rfl (by omega) (by omega)) (.v (fun _ f => .fieldAddr rfl) (.v (fun _ f => .load (v := .int .u64 l[a'].ca) rfl (hldb 3 _ _ _ _ f (by omega) rfl)) (.v (fun _ f => .addU (l[a'].tr + l[a'].ca) rfl rfl rfl (by omega)) (.v (fun _ f => .move rfl) (.v (fun _ f => .move rfl) (.v (fun _ f => .indexAddr rfl rfl (by omega) (by omega)) (.v (fun _ f => .fieldAddr rfl) (.v (fun _ f => .load (v := .int .u64 e.q) rfl (hev 9 _ _ (by omega) rfl)) (.v (fun _ f => .addU (l[a'].tr + l[a'].ca + e.q) rfl rfl rfl (by omega)) (.v (fun _ f => .move rfl) (.v (fun _ f => .move rfl) (.v (fun _ f => .indexAddr rfl rfl (by omega) (by omega)) (.v (fun _ f => .fieldAddr rfl) (.v (fun _ f => .load (v := .int .u64 l[a'].qty) rfl (hldb 1 _ _ _ _ f (by omega) rfl)) (.v (fun _ f => .gtr rfl rfl) (.nil ⟨rfl, rfl, rfl, rfl⟩)))))))))))))))))))))))) (.nil ?_)
        refine .cond rfl (fun h => ?_) (fun _ => .skip ?_)
        · exfalso
          simp only [Bool.and_eq_true, Bool.or_eq_true, Bool.not_eq_true', Bool.and_eq_false_iff, Bool.or_eq_false_iff, Bool.not_eq_false', decide_eq_true_eq, decide_eq_false_iff_not, Bool.false_eq_true, false_iff] at h; omega
        refine (.drawY 28 [0, 1, 2, 3, 4, 5, 6, 7, 8, 9, 10, 11, 12, 13, 14, 15, 16, 17, 18, 19, 20, 21, 22, 23, 24, 25, 26, 27, 28, 29, 30, 31] _ (fun _ h => h) (by kernel_rfl) (by kernel_rfl) ?_)
        refine .x (fun _ _ _ => .move rfl) (.x (fun _ _ _ => .move rfl) (.x (fun _ _ _ => .move rfl) (.x (fun _ _ _ => .move rfl) (.x (fun _ _ _ => .move rfl) (.x (fun _ _ _ => .move rfl) (.x (fun _ _ _ => .indexAddr rfl rfl (by omega) (by omega)) (.x (fun _ _ _ => .fieldAddr rfl) (.v (fun _ f => .load (v := .int .u64 l[a].tr) rfl (hld 2 _ _ _ _ f (by omega) rfl)) (.x (fun _ _ _ => .move rfl) (.x (fun _ _ _ => .move rfl) (.x (fun _ _ _ => .indexAddr rfl rfl (by omega) (by omega)) (.x (fun _ _ _ => .fieldAddr rfl) (.v (fun _ f => .load (v := .int .u64 e.q) rfl (hev 9 _ _ (by omega) rfl)) ?_)))))))))))))
        refine .x (fun _ _ _ => .addU (l[a].tr + e.q) rfl rfl rfl (by omega)) (.x (fun _ _ _ => .move rfl) (.x (fun _ _ _ => .move rfl) (.x (fun _ _ _ => .indexAddr rfl rfl (by omega) (by omega)) (.x (fun _ _ _ => .fieldAddr rfl) (.v (fun _ f => .load (v := .int .u64 l[a'].tr) rfl (hldb 2 _ _ _ _ f (by omega) rfl)) (.x (fun _ _ _ => .move rfl) (.x (fun _ _ _ => .move rfl) (.x (fun _ _ _ => .indexAddr rfl rfl (by omega) (by omega)) (.x (fun _ _ _ => .fieldAddr rfl) (.v (fun _ f => .load (v := .int .u64 e.q) rfl (hev 9 _ _ (by omega) rfl)) (.x (fun _ _ _ => .addU (l[a'].tr + e.q) rfl rfl rfl (by omega)) (.x (fun _ _ _ => .indexAddr rfl rfl (by omega) (by omega)) (.x (fun _ _ _ => .fieldAddr rfl) (.st (.store rfl rfl rfl (by rw [Int.toNat_natCast]; omega)) (.x (fun _ _ _ => .indexAddr rfl rfl (by omega) (by omega)) (.x (fun _ _ _ => .fieldAddr rfl) (.st2 (.store rfl rfl rfl (by rw [Int.toNat_natCast, List.length_set]; omega)) (.nil ?_))))))))))))))))))
        have k2 := OwnS.setAt (v := .int .u64 (l[a].tr + e.q)) k (i := a * 5 + 2) (by omega)
        rw [lrows_set (y := l[a].more e.q 0) hal (by omega) (by simp [Lv.cells, Lv.more]), ← Nat.add_assoc] at k2
        have hbl2 : a' < (l.set a (l[a].more e.q 0)).length := by rw [List.length_set]; exact hbl
        have k3 := OwnS.setAt (v := .int .u64 (l[a'].tr + e.q)) k2 (i := a' * 5 + 2) (by omega)
        rw [lrows_set (y := l[a'].more e.q 0) hbl2 (by omega) (by rw [List.getElem_set, if_neg hab]; simp [Lv.cells, Lv.more]), ← Nat.add_assoc] at k3
        exact ⟨(.slice (some ⟨b, o, none⟩) l.length c, [(b, .cells ((ll.set (o + a * 5 + 2) (.int .u64 (l[a].tr + e.q))).set (o + a' * 5 + 2) (.int .u64 (l[a'].tr + e.q))) 61)]), by unfold LOwn; rw [List.length_set, List.length_set]; exact k3, .cons rfl (.cons rfl (.cons rfl (.nil _))), fun _ s => s⟩
    · rintro ⟨v', h'⟩ k'
      dsimp only at k' ⊢
      refine .region (.v (.move rfl) (.v (.addi rfl rfl (by omega)) (.v (.assign rfl) (.nil ?_))))
      exact ⟨(j + 1, l', v', h'), ⟨by dsimp only; omega, hl', ctl, k'⟩, by dsimp only; omega, .cons rfl (.cons rfl (.cons rfl (.nil _))), fun _ s => s⟩
  · have hd : evs.drop j = [] := List.drop_of_length_le (by omega)
    rw [hd] at hcl
    cases hcl
    refine .seq ((.region (.v (.move rfl) (.v (.assign rfl) (.v (.assign rfl) (.nil ?_))))))
    exact .ret ⟨[_, _], ⟨rfl, rfl, trivial⟩, _, rfl, k⟩
end Go.Proofs.Ytmfobfamdaajmaa

/- The law RulesPriority: its walk. -/
namespace Go.Proofs.Ytmfobfamdaajmaa
open Go.V
set_option linter.unusedVariables false
set_option linter.unusedSimpArgs false

structure PS where
  j : Nat
  left : Int
  v : Value
  h : Hp
inductive PI (B : Bk) (b10 : Nat) (h0 : Hp) (x : PS) (es : List Ev) : Prop
  | p0 (hh : x.h = (b10, .cells ev0.cells 50) :: h0) (k : Pe B es)
  | p1 (a : Ev) (L : List Ord) (hS : Hp) (hh : x.h = (b10, .cells a.cells 50) :: hS) (k : Side x.v L hS) (hp : Pv a x.left L es) (hl : L.length ≤ 4096) (hsd : a.sd = 1 ∨ a.sd = 2)
theorem Side.cut1 {A : Option Addr} {n c : Nat} {f : Ord} {rest : List Ord} {h : Hp} (k : Side (.slice A n c) (f :: rest) h) (hn : n = rest.length + 1) : Side (.slice (cutA A c 1 7) (n - 1) (c - 1)) rest h := by
  subst hn
  exact OwnS.cut k (i := 1) (by simp) (by omega)
set_option maxRecDepth 10000 in
set_option maxHeartbeats 2000000 in
theorem RulesPriority_ok (w : World) (cc cm : Int) (A : Option Addr) (len cap : Nat) (l : List Cm) (hl : len = l.length) (hA : Rd w [] A (crows l)) (hb : len ≤ 4503599627370496) (hw : ∀ c ∈ l, c.wf) :
    Is Try.prog 5 [.agg ⟨[.int .i64 cc, .int .i64 cm]⟩, .slice A len cap] w (.bool true) := by
  refine Does.pure (Does.of (n := 320) Try.func5 rfl rfl rfl rfl ?_)
  refine .seq ((.region (.nw (.box rfl rfl) fun b2 => (.v (.assign rfl) (.nil ?_)))))
  refine .seq ((.region (.v (.loadA (vs := [.int .i64 cc, .int .i64 cm]) rfl .whole rfl) ?_)))
  refine .ef (.call0 rfl rfl fun w s => begun_ok w cc cm) ?_
  rintro _ _ ⟨_, hN, rfl⟩
  by_cases hc : Cfg cc cm
  case neg =>
    rw [if_neg hc] at hN
    obtain ⟨rfl, rfl⟩ := hN
    refine .v (.move rfl) (.v (.extract rfl rfl) (.v (.extract rfl rfl) (.v (.assign rfl) (.v (.assign rfl) (.nil ?_)))))
    refine .seq (.seq ((.region (.v (.move rfl) (.v (.eql_ptr_nil rfl rfl) (.v (.move rfl) (.or (b2 := false) 24 26 2 2 rfl rfl (fun g1 => absurd g1 (by simp)) (.nil ?_))))))))
    refine .cond rfl (fun _ => ?_) (fun h => absurd h (by simp))
    refine .seq ((.region (.v (.move rfl) (.v (.assign rfl) (.nil ?_)))))
    exact .ret ⟨[_], ⟨rfl, trivial⟩, rfl⟩
  rw [if_pos hc] at hN
  obtain ⟨b, rfl, rfl⟩ := hN
  refine .v (.move rfl) (.v (.extract rfl rfl) (.v (.extract rfl rfl) (.v (.assign rfl) (.v (.assign rfl) (.nil ?_)))))
  refine .seq (.seq ((.region (.v (.move rfl) (.v (.eql_ptr_nil rfl rfl) (.v (.move rfl) (.or 24 26 2 2 rfl rfl (fun g1 => .v (.move rfl) (.v (.not rfl) (.nil ⟨rfl, rfl, rfl, rfl⟩))) (.nil ?_))))))))
  refine .cond rfl (fun h => absurd h (by simp)) (fun _ => .skip ?_)
  refine .seq (.seq ((.region (.v (.assign rfl) (.nil ?_)))))
  refine .block (.loop (X := BS) (fun x => [(1, .slice A len cap), (5, .pointer (some ⟨b, 0, none⟩)), (7, .int .i64 x.i)]) (fun x => x.H b) (fun x => x.V len cc) (fun x => len - x.i)
    ⟨0, newB cc cm, .slice none 0 0, .slice none 0 0, [], []⟩ ⟨by simp, newB_vl hc, rfl, OwnS.nil _ _, OwnS.nil _ _⟩ (.cons rfl (.cons rfl (.cons rfl (.nil _)))) (fun _ s => s.take) ?_)
  rintro ⟨i, B, v1, v2, k1, k2⟩ ⟨hi, hI, hcap0, h1, h2⟩
  dsimp only at hi hI hcap0 h1 h2 ⊢
  refine .seq (.seq ((.region (.v (.move rfl) (.v (.move rfl) (.v (.len rfl) (.v (.lss rfl rfl) (.nil ?_))))))))
  refine .cond_dec rfl (fun g2 => .skip ?_) (fun g2 => .exit ?_)
  · have hil : i < l.length := by omega
    obtain ⟨ba, oa, rfl, hat⟩ := Rd.cm hA (by omega)
    have hcw := hw _ (List.getElem_mem hil)
    have hat := hat i hil
    generalize l[i] = c at hat hcw
    have hI' := does_vl hI hcw
    have hel := does_len hI.inv hcw
    have hcap' := (does_cap B c).1.trans hcap0
    have hlen0 := hI.len
    have hcapb0 := hI.inv.hi
    have hlen := hI'.len
    have hcapb := hI'.inv.hi
    obtain ⟨A1, c1, rfl⟩ := OwnS.sl h1
    obtain ⟨A2, c2, rfl⟩ := OwnS.sl h2
    refine .seq (.block (.seq ((.region (.v (.move rfl) ?_)))))
    refine .ef (.call0 rfl rfl fun w s => Book_ok w b B.cap B.meet B.high B.seq A1 A2 c1 c2 B.bs B.ss (Rd.chunk s (T := 67) (l := Bc B (.slice A1 B.bs.length c1) (.slice A2 B.ss.length c2)) (by simp) (fun j v hv => by rw [Nat.zero_add]; exact hv)) (OwnS.rd h1 s (no := []) (fun p hp => by simp [hp]) (by simp)) (OwnS.rd h2 s (no := []) (fun p hp => by simp [hp]) (by simp)) (by omega) (by omega)) ?_
    rintro _ _ ⟨_, ⟨E1, E2, d1, d2, q1, q2, rfl, rfl, oe1, oe2⟩, rfl⟩
    refine .nw .alloc fun b8 => (.st (.sw rfl rfl) (.nil ?_))
    refine .seq ((.region (.v (.move rfl) (.v (.move rfl) (.v (.move rfl) (.v (.indexAddr rfl rfl (by omega) (by omega)) (.v (.loadA (vs := c.cells) rfl (hat _ _ (by simp [bl])) rfl) ?_)))))))
    refine .ef (.callT (Tb b (Bc B (.slice A1 B.bs.length c1) (.slice A2 B.ss.length c2)) :: (k1 ++ k2)) rfl rfl (fun w s => Does.call_Do w b B hI.inv.ok c hcw.2.1 hcw.2.2 _ _ k1 k2 h1 h2)) ?_
    have hpe := does_pe hI hcw
    generalize B.does c = D at hI' hel hcap' hlen hcapb hpe ⊢
    obtain ⟨B', evs⟩ := D
    rintro _ _ ⟨_, ⟨A', c', v1', v2', k1', k2', ke, rfl, rfl, h1', h2', hE⟩, rfl⟩
    dsimp only at hI' hel hcap' hlen hcapb hpe h1' h2' hE ⊢
    refine .v (.assign rfl) (.nil ?_)
    refine .seq ((.region (.v (.build (out := ev0.cells) rfl rfl) (.nw .alloc fun b10 => (.st (.sw rfl rfl) (.nil ?_))))))
    refine .seq ((.region (.v (.assign rfl) (.nil ?_))))
    refine .seq ((.region (.ef (.buildSlice (out := []) rfl (by decide) rfl rfl) ?_)))
    rintro _ _ ⟨bs0, rfl, rfl⟩
    refine .v (.assign rfl) (.nil ?_)
    refine .seq ((.region (.v (.assign rfl) (.nil ?_))))
    refine .block (.loop (X := PS) (fun x => [(1, .slice (some ⟨ba, oa, none⟩) len cap), (5, .pointer (some ⟨b, 0, none⟩)), (7, .int .i64 i), (8, .pointer (some ⟨b8, 0, none⟩)), (9, .slice A' evs.length c'), (10, .pointer (some ⟨b10, 0, none⟩)), (11, .int .u64 x.left), (12, x.v), (13, .int .i64 x.j)]) (fun x => x.h ++ ((Tb b (Bc B' v1' v2') :: (k1' ++ k2')) ++ ke)) (fun x => x.j ≤ evs.length ∧ PI B b10 ((b8, .cells (bcells B.cap B.meet (.slice E1 B.bs.length d1) (.slice E2 B.ss.length d2) B.high B.seq) 30) :: (q2 ++ q1)) x (evs.drop x.j)) (fun x => evs.length - x.j)
      ⟨0, 0, .slice (some ⟨bs0, 0, none⟩) 0 0, (b10, .cells ev0.cells 50) :: ((b8, .cells (bcells B.cap B.meet (.slice E1 B.bs.length d1) (.slice E2 B.ss.length d2) B.high B.seq) 30) :: (q2 ++ q1))⟩ ⟨by simp, .p0 rfl hpe⟩ (.cons rfl (.cons rfl (.cons rfl (.cons rfl (.cons rfl (.cons rfl (.cons rfl (.cons rfl (.cons rfl (.nil _)))))))))) (fun _ s => Sat.take (pre := ((b10, .cells ev0.cells 50) :: ((b8, .cells (bcells B.cap B.meet (.slice E1 B.bs.length d1) (.slice E2 B.ss.length d2) B.high B.seq) 30) :: (q2 ++ q1))) ++ ((Tb b (Bc B' v1' v2') :: (k1' ++ k2')) ++ ke)) s) ?_)
    rintro ⟨j, left, vS, hX⟩ ⟨hj, hPI⟩
    dsimp only at hj hPI ⊢
    refine .seq (.seq ((.region (.v (.move rfl) (.v (.move rfl) (.v (.len rfl) (.v (.lss rfl rfl) (.nil ?_))))))))
    refine .cond_dec rfl (fun h3 => .skip ?_) (fun h3 => .exit ?_)
    · have hjl : j < evs.length := by omega
      obtain ⟨be, oe, le, rfl, -, rfl, -, -, -⟩ := hE.some_ (by omega)
      have hat' : ∀ (own : List Nat) (hs : Hp), [(be, Ch.cells le 50)] ⊆ hs → At w own hs ⟨be, oe + j * 13, none⟩ evs[j].cells := fun own hs hh => OwnS.atN hE hh fun k v hv => by rw [erows_get evs j k hjl (List.getElem?_eq_some_iff.1 hv).1]; exact hv
      have hnext : ∀ (hj1 : j + 1 < evs.length) (own : List Nat) (hs : Hp), [(be, Ch.cells le 50)] ⊆ hs → At w own hs ⟨be, oe + (j + 1) * 13 + 1, none⟩ [.int .i64 (evs.getD (j + 1) ev0).kind] := fun hj1 own hs hh => hE.ld hh hj1 (by omega) (by rw [List.getD_eq_getElem?_getD, List.getElem?_eq_getElem hj1]; rfl)
      rw [drop_at hjl] at hPI
      generalize evs[j] = e at hPI hat'
      refine .mid (X := PS) (fun x => [(1, .slice (some ⟨ba, oa, none⟩) len cap), (5, .pointer (some ⟨b, 0, none⟩)), (7, .int .i64 i), (8, .pointer (some ⟨b8, 0, none⟩)), (9, .slice (some ⟨be, oe, none⟩) evs.length c'), (10, .pointer (some ⟨b10, 0, none⟩)), (11, .int .u64 x.left), (12, x.v), (13, .int .i64 j)]) (fun x => x.h ++ ((Tb b (Bc B' v1' v2') :: (k1' ++ k2')) ++ [(be, Ch.cells le 50)])) (fun x => PI B b10 ((b8, .cells (bcells B.cap B.meet (.slice E1 B.bs.length d1) (.slice E2 B.ss.length d2) B.high B.seq) 30) :: (q2 ++ q1)) x (evs.drop (j + 1))) (.block (.seq ((.region (.v (.move rfl) (.v (.move rfl) (.v (.indexAddr rfl rfl (by omega) (by omega)) (.v (.loadA (vs := e.cells) rfl (hat' _ _ (fun p hp => by simp at hp ⊢; simp [hp])) rfl) (.nw .alloc fun b14 => (.st (.sw rfl rfl) (.nil ?_))))))))))) ?_
      · refine .seq ((.region (.v (.fieldAddr rfl) (.v (.load (v := .int .i64 e.kind) rfl (.one rfl)) (.nil ?_)))))
        refine .block (.seq ((.region (.v (.eqi rfl rfl) (.v (.assign rfl) (.nil ?_))))))
        cases hPI with
        | p0 hh hpe =>
          dsimp only at hh
          subst hh
          cases hpe with
          | skip hk hn =>
            refine .cond_dec rfl (fun h => absurd h (by omega)) (fun _ => ?_)
            refine .seq ((.region (.v (.eqi rfl rfl) (.v (.assign rfl) (.nil ?_)))))
            refine .cond_dec rfl (fun h => absurd h (by omega)) (fun _ => ?_)
            refine .seq ((.region (.v (.eqi rfl rfl) (.v (.assign rfl) (.nil ?_)))))
            refine .cond_dec rfl (fun h => absurd h (by omega)) (fun _ => ?_)
            refine .seq ((.region (.v (.eqi rfl rfl) (.v (.assign rfl) (.nil ?_)))))
            refine .cond_dec rfl (fun h => absurd h (by omega)) (fun _ => .skip ?_)
            exact ⟨⟨j, left, vS, _⟩, .p0 rfl hn, .cons rfl (.cons rfl (.cons rfl (.cons rfl (.cons rfl (.cons rfl (.cons rfl (.cons rfl (.cons rfl (.nil _))))))))), fun _ s => s.take⟩
          | can hk h1 hn =>
            refine .cond_dec rfl (fun h => absurd h (by omega)) (fun _ => ?_)
            refine .seq ((.region (.v (.eqi rfl rfl) (.v (.assign rfl) (.nil ?_)))))
            refine .cond_dec rfl (fun h => absurd h (by omega)) (fun _ => ?_)
            refine .seq ((.region (.v (.eqi rfl rfl) (.v (.assign rfl) (.nil ?_)))))
            refine .cond_dec rfl (fun h => absurd h (by omega)) (fun _ => ?_)
            refine .seq ((.region (.v (.eqi rfl rfl) (.v (.assign rfl) (.nil ?_)))))
            refine .cond_dec rfl (fun _ => ?_) (fun h => absurd hk h)
            refine .seq ((.region (.v (.fieldAddr rfl) (.v (.load (v := .int .i64 e.reason) rfl (.one rfl)) (.v (.eqi rfl rfl) (.v (.move rfl) (.and 269 274 5 5 rfl rfl (fun g17 => .v (.fieldAddr rfl) (.v (.load (v := .int .u64 e.id) rfl (.one rfl)) (.v (.fieldAddr rfl) (.v (.load (v := .int .u64 0) rfl (.one rfl)) (.v (.nei rfl rfl) (.nil ⟨rfl, rfl, rfl, rfl⟩)))))) (.nil ?_))))))))
            refine .cond rfl (fun h => ?_) (fun _ => .skip ?_)
            · exfalso
              simp only [Bool.and_eq_true, Bool.or_eq_true, Bool.not_eq_true', Bool.and_eq_false_iff, Bool.or_eq_false_iff, Bool.not_eq_false', decide_eq_true_eq, decide_eq_false_iff_not, Bool.false_eq_true, false_iff] at h; omega
            exact ⟨⟨j, left, vS, _⟩, .p0 rfl hn, .cons rfl (.cons rfl (.cons rfl (.cons rfl (.cons rfl (.cons rfl (.cons rfl (.cons rfl (.cons rfl (.nil _))))))))), fun _ s => s.take⟩
          | ack hk hs hn =>
            refine .cond_dec rfl (fun _ => ?_) (fun h => absurd hk h)
            refine .mid (X := Unit) (fun _ => [(1, .slice (some ⟨ba, oa, none⟩) len cap), (5, .pointer (some ⟨b, 0, none⟩)), (7, .int .i64 i), (8, .pointer (some ⟨b8, 0, none⟩)), (9, .slice (some ⟨be, oe, none⟩) evs.length c'), (10, .pointer (some ⟨b10, 0, none⟩)), (11, .int .u64 e.q), (12, vS), (13, .int .i64 j), (14, .pointer (some ⟨b14, 0, none⟩))]) (fun _ => (b14, .cells e.cells 50) :: (((b10, .cells e.cells 50) :: ((b8, .cells (bcells B.cap B.meet (.slice E1 B.bs.length d1) (.slice E2 B.ss.length d2) B.high B.seq) 30) :: (q2 ++ q1))) ++ ((Tb b (Bc B' v1' v2') :: (k1' ++ k2')) ++ [(be, Ch.cells le 50)]))) (fun _ => True) ?_ ?_
            · refine .draw [(b14, .cells e.cells 50)] (by intro p hp; simp at hp; subst hp; simp) (by kernel_rfl) ?_
              refine .v 0 rfl (by kernel_rfl) (fun _ F_ => .loadA (vs := e.cells) rfl (.whole (hb := .sub F_)) rfl) (.v 1 rfl (by kernel_rfl) (fun _ F_ => .fieldAddr rfl) (.two 2 3 (by kernel_rfl) (.v rfl (.load (v := .int .u64 e.q) rfl (.one rfl)) (.one 3 (by kernel_rfl) (.st rfl (.sw rfl rfl) (by simp) (.one 4 (by kernel_rfl) (.v rfl (.assign rfl) (.done (by kernel_rfl) ?_)))))) (.st rfl (.sw rfl rfl) (by simp) (.one 2 (by kernel_rfl) (.v rfl (.load (v := .int .u64 e.q) rfl (.one rfl)) (.one 4 (by kernel_rfl) (.v rfl (.assign rfl) (.done (by kernel_rfl) ?_))))))))
              · exact ⟨(), trivial, .cons rfl (.cons rfl (.cons rfl (.cons rfl (.cons rfl (.cons rfl (.cons rfl (.cons rfl (.cons rfl (.cons rfl (.nil _)))))))))), fun _ s => s⟩
              · exact ⟨(), trivial, .cons rfl (.cons rfl (.cons rfl (.cons rfl (.cons rfl (.cons rfl (.cons rfl (.cons rfl (.cons rfl (.cons rfl (.nil _)))))))))), fun _ s => s⟩
            rintro ⟨⟩ -
            refine .seq ((.region (.v (.fieldAddr rfl) (.v (.load (v := .slice E2 B.ss.length d2) rfl (.one rfl)) (.v (.assign rfl) (.nil ?_))))))
            refine .seq ((.region (.v (.fieldAddr rfl) (.v (.load (v := .int .i64 e.sd) rfl (.one rfl)) (.v (.eqi rfl rfl) (.nil ?_))))))
            refine .cond_dec rfl (fun h5 => ?_) (fun h5 => .skip ?_)
            · rw [if_pos h5] at hn
              refine .region (.v (.fieldAddr rfl) (.v (.load (v := .slice E1 B.bs.length d1) rfl (.one rfl)) (.v (.assign rfl) (.nil ?_))))
              exact ⟨⟨j, e.q, .slice E1 B.bs.length d1, (b10, .cells e.cells 50) :: q1⟩, .p1 e B.bs q1 rfl oe1 hn (by omega) hs, .cons rfl (.cons rfl (.cons rfl (.cons rfl (.cons rfl (.cons rfl (.cons rfl (.cons rfl (.cons rfl (.nil _))))))))), fun _ s => Sat.take (pre := ((b10, .cells e.cells 50) :: q1) ++ ((Tb b (Bc B' v1' v2') :: (k1' ++ k2')) ++ [(be, Ch.cells le 50)])) s⟩
            · rw [if_neg h5] at hn
              exact ⟨⟨j, e.q, .slice E2 B.ss.length d2, (b10, .cells e.cells 50) :: q2⟩, .p1 e B.ss q2 rfl oe2 hn (by omega) hs, .cons rfl (.cons rfl (.cons rfl (.cons rfl (.cons rfl (.cons rfl (.cons rfl (.cons rfl (.cons rfl (.nil _))))))))), fun _ s => Sat.take (pre := ((b10, .cells e.cells 50) :: q2) ++ ((Tb b (Bc B' v1' v2') :: (k1' ++ k2')) ++ [(be, Ch.cells le 50)])) s⟩
        | p1 a L hS hh k hp hLl hsd =>
          dsimp only at hh k hp
          subst hh
          cases hp with
          | @trade _ f rest _ _ hk h1 h2 h3 h4 h5 h6 h7 h8 hn =>
            obtain ⟨AS, cS, rfl⟩ := OwnS.sl k
            obtain ⟨bS, oS, lS, rfl, -, rfl, hcc, hcap, -⟩ := k.some_ (by simp)
            have hbnd : oS + 7 ≤ lS.length := by
              have : 1 * 7 ≤ cS * 7 := Nat.mul_le_mul_right _ (by simp only [List.length_cons] at hcc; omega)
              omega
            have hld : ∀ (k' : Nat) (v : Value) (w0 : World) (own : List Nat) (hs : Hp), [(bS, Ch.cells lS 53)] ⊆ hs → k' < 7 → (f.cells)[k']? = some v → At w0 own hs ⟨bS, oS + 0 * 7 + k', none⟩ [v] := fun k' v w0 own hs hh hk' hv => Side.ld (i := 0) k hh (by simp) hk' hv
            refine .cond_dec rfl (fun h => absurd h (by omega)) (fun _ => ?_)
            refine .seq ((.region (.v (.eqi rfl rfl) (.v (.assign rfl) (.nil ?_)))))
            refine .cond_dec rfl (fun _ => ?_) (fun h => absurd hk h)
            refine .seq (.seq ((.drawK _ (fun _ h => h) (by kernel_rfl) (by kernel_rfl) ?_)))
            refine .v (fun _ F_ => .move rfl) (.v (fun _ F_ => .len rfl) (.v (fun _ F_ => .eqi rfl rfl) (.v (fun _ F_ => .move rfl) (.or 74 79 5 5 rfl rfl (fun g0 => .v (fun _ F_ => .fieldAddr rfl) (.v (fun _ F_ => .load (v := .int .u64 e.id) rfl (.one (hb := .sub F_) rfl)) (.v (fun _ F_ => .fieldAddr rfl) (.v (fun _ F_ => .load (v := .int .u64 a.id) rfl (.one (hb := .sub F_) rfl)) (.v (fun _ F_ => .nei rfl rfl) (.nil ⟨rfl, rfl, rfl, rfl⟩)))))) (.v (fun _ F_ => .move rfl) (.or 81 88 7 7 rfl rfl (fun g1 => .v (fun _ F_ => .fieldAddr rfl) (.v (fun _ F_ => .load (v := .int .u64 e.other) rfl (.one (hb := .sub F_) rfl)) (.v (fun _ F_ => .move rfl) (.v (fun _ F_ => .indexAddr rfl rfl (by omega) (by simp)) (.v (fun _ F_ => .fieldAddr rfl) (.v (fun _ F_ => .load (v := .int .u64 f.id) rfl (hld 0 _ _ _ _ (fun p hp => F_ (by simp at hp ⊢; simp [hp])) (by omega) rfl)) (.v (fun _ F_ => .nei rfl rfl) (.nil ⟨rfl, rfl, rfl, rfl⟩)))))))) (.v (fun _ F_ => .move rfl) (.or 90 97 7 7 rfl rfl (fun g2 => .v (fun _ F_ => .fieldAddr rfl) (.v (fun _ F_ => .load (v := .int .i64 e.pr) rfl (.one (hb := .sub F_) rfl)) (.v (fun _ F_ => .move rfl) (.v (fun _ F_ => .indexAddr rfl rfl (by omega) (by simp)) (.v (fun _ F_ => .fieldAddr rfl) (.v (fun _ F_ => .load (v := .int .i64 f.pr) rfl (hld 3 _ _ _ _ (fun p hp => F_ (by simp at hp ⊢; simp [hp])) (by omega) rfl)) (.v (fun _ F_ => .nei rfl rfl) (.nil ⟨rfl, rfl, rfl, rfl⟩)))))))) (.v (fun _ F_ => .move rfl) (.or 99 104 5 5 rfl rfl (fun g3 => .v (fun _ F_ => .fieldAddr rfl) (.v (fun _ F_ => .load (v := .int .i64 e.sd) rfl (.one (hb := .sub F_) rfl)) (.v (fun _ F_ => .fieldAddr rfl) (.v (fun _ F_ => .load (v := .int .i64 a.sd) rfl (.one (hb := .sub F_) rfl)) (.v (fun _ F_ => .nei rfl rfl) (.nil ⟨rfl, rfl, rfl, rfl⟩)))))) (.nil ?_)))))))))))
            refine .cond rfl (fun h => ?_) (fun _ => .skip ?_)
            · exfalso
              simp only [Bool.and_eq_true, Bool.or_eq_true, Bool.not_eq_true', Bool.and_eq_false_iff, Bool.or_eq_false_iff, Bool.not_eq_false', decide_eq_true_eq, decide_eq_false_iff_not, Bool.false_eq_true, false_iff, List.length_cons] at h; omega
            refine .seq (.seq ((.region (.v (.fieldAddr rfl) (.v (.load (v := .int .i64 a.ty) rfl (.one rfl)) (.v (.nei rfl rfl) (.v (.move rfl) (.and 109 131 22 7 rfl rfl (fun g6 => .v (.fieldAddr rfl) (.v (.load (v := .int .i64 a.sd) rfl (.one rfl)) (.v (.eqi rfl rfl) (.v (.move rfl) (.and 113 118 5 5 rfl rfl (fun g7 => .v (.fieldAddr rfl) (.v (.load (v := .int .i64 e.pr) rfl (.one rfl)) (.v (.fieldAddr rfl) (.v (.load (v := .int .i64 a.pr) rfl (.one rfl)) (.v (.gtr rfl rfl) (.nil ⟨rfl, rfl, rfl, rfl⟩)))))) (.v (.move rfl) (.or 120 130 10 5 rfl rfl (fun g8 => .v (.fieldAddr rfl) (.v (.load (v := .int .i64 a.sd) rfl (.one rfl)) (.v (.eqi rfl rfl) (.v (.move rfl) (.and 124 129 5 5 rfl rfl (fun g9 => .v (.fieldAddr rfl) (.v (.load (v := .int .i64 e.pr) rfl (.one rfl)) (.v (.fieldAddr rfl) (.v (.load (v := .int .i64 a.pr) rfl (.one rfl)) (.v (.lss rfl rfl) (.nil ⟨rfl, rfl, rfl, rfl⟩)))))) (.nil ⟨rfl, rfl, rfl, rfl⟩)))))) (.nil ⟨rfl, rfl, rfl, rfl⟩)))))))) (.nil ?_)))))))))
            refine .cond rfl (fun h => ?_) (fun _ => .skip ?_)
            · exfalso
              simp only [Bool.and_eq_true, Bool.or_eq_true, Bool.not_eq_true', Bool.and_eq_false_iff, Bool.or_eq_false_iff, Bool.not_eq_false', decide_eq_true_eq, decide_eq_false_iff_not, Bool.false_eq_true, false_iff, List.length_cons] at h; omega
            refine .seq ((.region (.v (.move rfl) (.v (.assign rfl) (.nil ?_)))))
            refine .mid (X := Unit) (fun _ => [(1, .slice (some ⟨ba, oa, none⟩) len cap), (5, .pointer (some ⟨b, 0, none⟩)), (7, .int .i64 i), (8, .pointer (some ⟨b8, 0, none⟩)), (9, .slice (some ⟨be, oe, none⟩) evs.length c'), (10, .pointer (some ⟨b10, 0, none⟩)), (11, .int .u64 left), (12, (.slice (some ⟨bS, oS, none⟩) (f :: rest).length cS)), (13, .int .i64 j), (14, .pointer (some ⟨b14, 0, none⟩)), (15, .int .u64 e.q)]) (fun _ => (b14, .cells e.cells 50) :: (((b10, .cells a.cells 50) :: [(bS, Ch.cells lS 53)]) ++ ((Tb b (Bc B' v1' v2') :: (k1' ++ k2')) ++ [(be, Ch.cells le 50)]))) (fun _ => True) (.seq ((.region (.v (.move rfl) (.v (.indexAddr rfl rfl (by omega) (by simp)) (.v (.fieldAddr rfl) (.v (.load (v := .int .u64 f.v) rfl (hld 4 _ _ _ _ (fun p hp => by simp at hp ⊢; simp [hp]) (by omega) rfl)) (.v (.move rfl) (.v (.lss rfl rfl) (.nil ?_)))))))))) ?_
            · refine .cond_dec rfl (fun h9 => ?_) (fun h9 => .skip ?_)
              · refine .region (.v (.move rfl) (.v (.indexAddr rfl rfl (by omega) (by simp)) (.v (.fieldAddr rfl) (.v (.load (v := .int .u64 f.v) rfl (hld 4 _ _ _ _ (fun p hp => by simp at hp ⊢; simp [hp]) (by omega) rfl)) (.v (.assign rfl) (.nil ?_))))))
                rw [show e.q = f.v from by omega]
                exact ⟨(), trivial, .cons rfl (.cons rfl (.cons rfl (.cons rfl (.cons rfl (.cons rfl (.cons rfl (.cons rfl (.cons rfl (.cons rfl (.cons rfl (.nil _))))))))))), fun _ s => s⟩
              · rw [show e.q = left from by omega]
                exact ⟨(), trivial, .cons rfl (.cons rfl (.cons rfl (.cons rfl (.cons rfl (.cons rfl (.cons rfl (.cons rfl (.cons rfl (.cons rfl (.cons rfl (.nil _))))))))))), fun _ s => s⟩
            rintro ⟨⟩ -
            refine .seq (.seq ((.region (.v (.fieldAddr rfl) (.v (.load (v := .int .u64 e.q) rfl (.one rfl)) (.v (.move rfl) (.v (.nei rfl rfl) (.nil ?_))))))))
            refine .cond_dec rfl (fun h => absurd rfl h) (fun _ => .skip ?_)
            refine .seq ((.region (.v (.move rfl) (.v (.move rfl) (.v (.subU (left - e.q) rfl rfl rfl (by omega)) (.v (.assign rfl) (.nil ?_)))))))
            refine .seq ((.region (.v (.move rfl) (.v (.move rfl) (.v (.indexAddr rfl rfl (by omega) (by simp)) (.v (.fieldAddr rfl) (.v (.load (v := .int .u64 f.v) rfl (hld 4 _ _ _ _ (fun p hp => by simp at hp ⊢; simp [hp]) (by omega) rfl)) (.v (.move rfl) (.v (.subU (f.v - e.q) rfl rfl rfl (by omega)) (.v (.indexAddr rfl rfl (by omega) (by simp)) (.v (.fieldAddr rfl) (.st (.store rfl rfl rfl (by show oS + 0 * 7 + 4 < _; omega)) (.nil ?_)))))))))))))
            have e7 : (rows (f :: rest)).set 4 (.int .u64 (f.v - e.q)) = rows (f.less e.q :: rest) := rfl
            have k2 := OwnS.setAt (v := .int .u64 (f.v - e.q)) k (i := 4) (by simp only [List.length_cons]; omega)
            rw [e7] at k2
            have k2 : Side (.slice (some ⟨bS, oS, none⟩) (f :: rest).length cS) (f.less e.q :: rest) [(bS, Ch.cells (lS.set (oS + 4) (.int .u64 (f.v - e.q))) 53)] := k2
            refine .heap (hs' := (b14, .cells e.cells 50) :: (((b10, .cells a.cells 50) :: [(bS, Ch.cells (lS.set (oS + 4) (.int .u64 (f.v - e.q))) 53)]) ++ ((Tb b (Bc B' v1' v2') :: (k1' ++ k2')) ++ [(be, Ch.cells le 50)]))) (fun _ s => s) ?_
            have hld2 : ∀ (k' : Nat) (v : Value) (w0 : World) (own : List Nat) (hs : Hp), [(bS, Ch.cells (lS.set (oS + 4) (.int .u64 (f.v - e.q))) 53)] ⊆ hs → k' < 7 → ((f.less e.q).cells)[k']? = some v → At w0 own hs ⟨bS, oS + 0 * 7 + k', none⟩ [v] := fun k' v w0 own hs hh hk' hv => Side.ld (i := 0) k2 hh (by simp) hk' hv
            refine .seq ((.region (.v (.move rfl) (.v (.indexAddr rfl rfl (by omega) (by simp)) (.v (.fieldAddr rfl) (.v (.load (v := .int .u64 (f.v - e.q)) rfl (hld2 4 _ _ _ _ (fun p hp => by simp at hp ⊢; simp [hp]) (by omega) rfl)) (.v (.eqi rfl rfl) (.v (.move rfl) (.and 165 170 5 5 rfl rfl (fun g10 => .v (.move rfl) (.v (.indexAddr rfl rfl (by omega) (by simp)) (.v (.fieldAddr rfl) (.v (.load (v := .int .u64 f.hd) rfl (hld2 5 _ _ _ _ (fun p hp => by simp at hp ⊢; simp [hp]) (by omega) rfl)) (.v (.eqi rfl rfl) (.nil ⟨rfl, rfl, rfl, rfl⟩)))))) (.nil ?_))))))))))
            refine .cond rfl (fun h11 => ?_) (fun h11 => ?_)
            · have h11 : f.v - e.q = 0 ∧ f.hd = 0 := by simpa only [Bool.and_eq_true, Bool.or_eq_true, Bool.not_eq_true', Bool.and_eq_false_iff, Bool.or_eq_false_iff, Bool.not_eq_false', decide_eq_true_eq, decide_eq_false_iff_not, Bool.false_eq_true, false_iff] using h11
              rw [if_pos h11] at hn
              refine .region (.v (.move rfl) (.v (.slLo rfl rfl (by omega) (by simp only [List.length_cons]; omega)) (.v (.assign rfl) (.nil ?_))))
              exact ⟨⟨j, left - e.q, (.slice (cutA (some ⟨bS, oS, none⟩) cS 1 7) ((f :: rest).length - 1) (cS - 1)), (b10, .cells a.cells 50) :: [(bS, Ch.cells (lS.set (oS + 4) (.int .u64 (f.v - e.q))) 53)]⟩, .p1 a rest _ rfl (Side.cut1 k2 (by simp)) hn (by simp only [List.length_cons] at hLl; omega) hsd, .cons rfl (.cons rfl (.cons rfl (.cons rfl (.cons rfl (.cons rfl (.cons rfl (.cons rfl (.cons rfl (.nil _))))))))), fun _ s => Sat.take (pre := ((b10, .cells a.cells 50) :: [(bS, Ch.cells (lS.set (oS + 4) (.int .u64 (f.v - e.q))) 53)]) ++ ((Tb b (Bc B' v1' v2') :: (k1' ++ k2')) ++ [(be, Ch.cells le 50)])) s⟩
            · have h11 : ¬ (f.v - e.q = 0 ∧ f.hd = 0) := by simp only [Bool.and_eq_true, Bool.or_eq_true, Bool.not_eq_true', Bool.and_eq_false_iff, Bool.or_eq_false_iff, Bool.not_eq_false', decide_eq_true_eq, decide_eq_false_iff_not, Bool.false_eq_true, false_iff] at h11; omega
              rw [if_neg h11] at hn
              refine .seq ((.region (.v (.move rfl) (.v (.indexAddr rfl rfl (by omega) (by simp)) (.v (.fieldAddr rfl) (.v (.load (v := .int .u64 (f.v - e.q)) rfl (hld2 4 _ _ _ _ (fun p hp => by simp at hp ⊢; simp [hp]) (by omega) rfl)) (.v (.eqi rfl rfl) (.v (.move rfl) (.and 179 193 14 7 rfl rfl (fun g11 => .v (.move rfl) (.v (.addE ((j + 1 : Nat) : Int) rfl rfl (by omega) (by omega)) (.v (.move rfl) (.v (.len rfl) (.v (.eqi rfl rfl) (.v (.move rfl) (.or 185 192 7 7 rfl rfl (fun g12 => .v (.move rfl) (.v (.move rfl) (.v (.addE ((j + 1 : Nat) : Int) rfl rfl (by omega) (by omega)) (.v (.indexAddr rfl rfl (by omega) (by simp only [Bool.and_eq_true, Bool.or_eq_true, Bool.not_eq_true', Bool.and_eq_false_iff, Bool.or_eq_false_iff, Bool.not_eq_false', decide_eq_true_eq, decide_eq_false_iff_not, Bool.false_eq_true, false_iff] at g12; omega)) (.v (.fieldAddr rfl) (.v (.load (v := .int .i64 (evs.getD (j + 1) ev0).kind) rfl (hnext (by simp only [Bool.and_eq_true, Bool.or_eq_true, Bool.not_eq_true', Bool.and_eq_false_iff, Bool.or_eq_false_iff, Bool.not_eq_false', decide_eq_true_eq, decide_eq_false_iff_not, Bool.false_eq_true, false_iff] at g12; omega) _ _ (fun p hp => by simp at hp ⊢; simp [hp]))) (.v (.nei rfl rfl) (.nil ⟨rfl, rfl, rfl, rfl⟩)))))))) (.nil ⟨rfl, rfl, rfl, rfl⟩)))))))) (.nil ?_))))))))))
              refine .cond rfl (fun h => ?_) (fun _ => .skip ?_)
              · exfalso
                simp only [Bool.and_eq_true, Bool.or_eq_true, Bool.not_eq_true', Bool.and_eq_false_iff, Bool.or_eq_false_iff, Bool.not_eq_false', decide_eq_true_eq, decide_eq_false_iff_not, Bool.false_eq_true, false_iff] at h
                obtain ⟨e', es', he, hk5⟩ := h7 h.1 (fun h0 => h11 ⟨h.1, h0⟩)
                have hj1 : j + 1 < evs.length := Decidable.byContradiction fun hn' => by rw [List.drop_of_length_le (by omega)] at he; cases he
                rw [drop_at hj1] at he
                have hkv : (evs.getD (j + 1) ev0).kind = 5 := by
                  rw [List.getD_eq_getElem?_getD, List.getElem?_eq_getElem hj1]
                  injection he with he1 _
                  rw [← he1] at hk5; exact hk5
                omega
              exact ⟨⟨j, left - e.q, (.slice (some ⟨bS, oS, none⟩) (f :: rest).length cS), (b10, .cells a.cells 50) :: [(bS, Ch.cells (lS.set (oS + 4) (.int .u64 (f.v - e.q))) 53)]⟩, .p1 a (f.less e.q :: rest) _ rfl k2 hn (by simpa using hLl) hsd, .cons rfl (.cons rfl (.cons rfl (.cons rfl (.cons rfl (.cons rfl (.cons rfl (.cons rfl (.cons rfl (.nil _))))))))), fun _ s => Sat.take (pre := ((b10, .cells a.cells 50) :: [(bS, Ch.cells (lS.set (oS + 4) (.int .u64 (f.v - e.q))) 53)]) ++ ((Tb b (Bc B' v1' v2') :: (k1' ++ k2')) ++ [(be, Ch.cells le 50)])) s⟩
          | @refresh _ f rest _ _ hk h1 h2 h3 h4 h5 h6 hn =>
            obtain ⟨AS, cS, rfl⟩ := OwnS.sl k
            obtain ⟨bS, oS, lS, rfl, -, rfl, hcc, hcap, -⟩ := k.some_ (by simp)
            have hbnd : oS + 7 ≤ lS.length := by
              have : 1 * 7 ≤ cS * 7 := Nat.mul_le_mul_right _ (by simp only [List.length_cons] at hcc; omega)
              omega
            have hld : ∀ (k' : Nat) (v : Value) (w0 : World) (own : List Nat) (hs : Hp), [(bS, Ch.cells lS 53)] ⊆ hs → k' < 7 → (f.cells)[k']? = some v → At w0 own hs ⟨bS, oS + 0 * 7 + k', none⟩ [v] := fun k' v w0 own hs hh hk' hv => Side.ld (i := 0) k hh (by simp) hk' hv
            refine .cond_dec rfl (fun h => absurd h (by omega)) (fun _ => ?_)
            refine .seq ((.region (.v (.eqi rfl rfl) (.v (.assign rfl) (.nil ?_)))))
            refine .cond_dec rfl (fun h => absurd h (by omega)) (fun _ => ?_)
            refine .seq ((.region (.v (.eqi rfl rfl) (.v (.assign rfl) (.nil ?_)))))
            refine .cond_dec rfl (fun _ => ?_) (fun h => absurd hk h)
            refine .seq (.seq ((.drawK _ (fun _ h => h) (by kernel_rfl) (by kernel_rfl) ?_)))
            refine .v (fun _ F_ => .move rfl) (.v (fun _ F_ => .len rfl) (.v (fun _ F_ => .eqi rfl rfl) (.v (fun _ F_ => .move rfl) (.or 200 207 7 7 rfl rfl (fun g0 => .v (fun _ F_ => .move rfl) (.v (fun _ F_ => .indexAddr rfl rfl (by omega) (by simp)) (.v (fun _ F_ => .fieldAddr rfl) (.v (fun _ F_ => .load (v := .int .u64 f.id) rfl (hld 0 _ _ _ _ (fun p hp => F_ (by simp at hp ⊢; simp [hp])) (by omega) rfl)) (.v (fun _ F_ => .fieldAddr rfl) (.v (fun _ F_ => .load (v := .int .u64 e.id) rfl (.one (hb := .sub F_) rfl)) (.v (fun _ F_ => .nei rfl rfl) (.nil ⟨rfl, rfl, rfl, rfl⟩)))))))) (.v (fun _ F_ => .move rfl) (.or 209 214 5 5 rfl rfl (fun g1 => .v (fun _ F_ => .move rfl) (.v (fun _ F_ => .indexAddr rfl rfl (by omega) (by simp)) (.v (fun _ F_ => .fieldAddr rfl) (.v (fun _ F_ => .load (v := .int .u64 f.v) rfl (hld 4 _ _ _ _ (fun p hp => F_ (by simp at hp ⊢; simp [hp])) (by omega) rfl)) (.v (fun _ F_ => .nei rfl rfl) (.nil ⟨rfl, rfl, rfl, rfl⟩)))))) (.v (fun _ F_ => .move rfl) (.or 216 221 5 5 rfl rfl (fun g2 => .v (fun _ F_ => .move rfl) (.v (fun _ F_ => .indexAddr rfl rfl (by omega) (by simp)) (.v (fun _ F_ => .fieldAddr rfl) (.v (fun _ F_ => .load (v := .int .u64 f.hd) rfl (hld 5 _ _ _ _ (fun p hp => F_ (by simp at hp ⊢; simp [hp])) (by omega) rfl)) (.v (fun _ F_ => .eqi rfl rfl) (.nil ⟨rfl, rfl, rfl, rfl⟩)))))) (.v (fun _ F_ => .move rfl) (.or 223 230 7 7 rfl rfl (fun g3 => .v (fun _ F_ => .fieldAddr rfl) (.v (fun _ F_ => .load (v := .int .i64 e.pr) rfl (.one (hb := .sub F_) rfl)) (.v (fun _ F_ => .move rfl) (.v (fun _ F_ => .indexAddr rfl rfl (by omega) (by simp)) (.v (fun _ F_ => .fieldAddr rfl) (.v (fun _ F_ => .load (v := .int .i64 f.pr) rfl (hld 3 _ _ _ _ (fun p hp => F_ (by simp at hp ⊢; simp [hp])) (by omega) rfl)) (.v (fun _ F_ => .nei rfl rfl) (.nil ⟨rfl, rfl, rfl, rfl⟩)))))))) (.nil ?_)))))))))))
            refine .cond rfl (fun h => ?_) (fun _ => .skip ?_)
            · exfalso
              simp only [Bool.and_eq_true, Bool.or_eq_true, Bool.not_eq_true', Bool.and_eq_false_iff, Bool.or_eq_false_iff, Bool.not_eq_false', decide_eq_true_eq, decide_eq_false_iff_not, Bool.false_eq_true, false_iff, List.length_cons] at h; omega
            refine .seq ((.region (.v (.move rfl) (.v (.indexAddr rfl rfl (by omega) (by simp)) (.v (.loadA (vs := [.int .u64 f.id, .int .u32 f.mb, .int .i64 f.ty, .int .i64 f.pr, .int .u64 f.v, .int .u64 f.hd, .int .u64 f.pk]) rfl (OwnS.atN (i := 0) k (fun p hp => by simp at hp ⊢; simp [hp]) (fun j v hv => by rw [Nat.zero_add]; exact (List.getElem?_append_left (l₁ := f.cells) (l₂ := rows rest) (List.getElem?_eq_some_iff.1 hv).1).trans hv)) rfl) (.nw .alloc fun b16 => (.st (.sw rfl rfl) (.nil ?_))))))))
            refine .seq ((.region (.v (.fieldAddr rfl) (.v (.load (v := .int .u64 f.pk) rfl (.one rfl)) (.v (.fieldAddr rfl) (.st (.storeL rfl rfl rfl) (.nil ?_)))))))
            refine .mid (X := Unit) (fun _ => [(1, .slice (some ⟨ba, oa, none⟩) len cap), (5, .pointer (some ⟨b, 0, none⟩)), (7, .int .i64 i), (8, .pointer (some ⟨b8, 0, none⟩)), (9, .slice (some ⟨be, oe, none⟩) evs.length c'), (10, .pointer (some ⟨b10, 0, none⟩)), (11, .int .u64 left), (12, (.slice (some ⟨bS, oS, none⟩) (f :: rest).length cS)), (13, .int .i64 j), (14, .pointer (some ⟨b14, 0, none⟩)), (16, .pointer (some ⟨b16, 0, none⟩))]) (fun _ => (b16, .cells [.int .u64 f.id, .int .u32 f.mb, .int .i64 f.ty, .int .i64 f.pr, .int .u64 (min f.pk f.hd), .int .u64 f.hd, .int .u64 f.pk] 53) :: (b14, .cells e.cells 50) :: (((b10, .cells a.cells 50) :: [(bS, Ch.cells lS 53)]) ++ ((Tb b (Bc B' v1' v2') :: (k1' ++ k2')) ++ [(be, Ch.cells le 50)]))) (fun _ => True) (.seq ((.region (.v (.fieldAddr rfl) (.v (.load (v := .int .u64 f.hd) rfl (.one rfl)) (.v (.fieldAddr rfl) (.v (.load (v := .int .u64 f.pk) rfl (.one rfl)) (.v (.lss rfl rfl) (.nil ?_))))))))) ?_
            · refine .cond_dec rfl (fun h9 => ?_) (fun h9 => .skip ?_)
              · refine .region (.v (.fieldAddr rfl) (.v (.load (v := .int .u64 f.hd) rfl (.one rfl)) (.v (.fieldAddr rfl) (.st (.storeL rfl rfl rfl) (.nil ?_)))))
                rw [show min f.pk f.hd = f.hd from by omega]
                exact ⟨(), trivial, .cons rfl (.cons rfl (.cons rfl (.cons rfl (.cons rfl (.cons rfl (.cons rfl (.cons rfl (.cons rfl (.cons rfl (.cons rfl (.nil _))))))))))), fun _ s => s⟩
              · rw [show min f.pk f.hd = f.pk from by omega]
                exact ⟨(), trivial, .cons rfl (.cons rfl (.cons rfl (.cons rfl (.cons rfl (.cons rfl (.cons rfl (.cons rfl (.cons rfl (.cons rfl (.cons rfl (.nil _))))))))))), fun _ s => s⟩
            rintro ⟨⟩ -
            refine .seq ((.region (.v (.fieldAddr rfl) (.v (.load (v := .int .u64 f.hd) rfl (.one rfl)) (.v (.fieldAddr rfl) (.v (.load (v := .int .u64 (min f.pk f.hd)) rfl (.one rfl)) (.v (.subU (f.hd - min f.pk f.hd) rfl rfl rfl (by omega)) (.v (.fieldAddr rfl) (.st (.storeL rfl rfl rfl) (.nil ?_))))))))))
            refine .seq (.seq ((.region (.v (.fieldAddr rfl) (.v (.load (v := .int .u64 e.q) rfl (.one rfl)) (.v (.fieldAddr rfl) (.v (.load (v := .int .u64 (min f.pk f.hd)) rfl (.one rfl)) (.v (.nei rfl rfl) (.nil ?_)))))))))
            refine .cond_dec rfl (fun h => absurd h5 h) (fun _ => .skip ?_)
            refine (.drawK _ (fun _ h => h) (by kernel_rfl) (by kernel_rfl) ?_)
            refine .v (fun _ F_ => .move rfl) (.v (fun _ F_ => .slLo rfl rfl (by omega) (by simp only [List.length_cons]; omega)) (.v (fun _ F_ => .loadA (vs := f.next.cells) rfl (.whole (hb := .sub F_)) rfl) (.v (fun _ F_ => .fieldAddr rfl) (.v (fun _ F_ => .load (v := .int .i64 a.sd) rfl (.one (hb := .sub F_) rfl)) (.v (fun _ F_ => .eqi rfl rfl) ?_)))))
            refine .cl rfl rfl (fun w s => behind_ok w (cutA (some ⟨bS, oS, none⟩) cS 1 7) (cS - 1) rest f.next (decide (a.sd = 2)) (OwnS.rd (Side.cut1 k (by simp)) s (no := []) (fun p hp => by simp at hp ⊢; simp [hp]) (by simp)) (by simp only [List.length_cons] at hLl; omega)) ?_
            intro v' h' hS'
            refine .v (fun _ F_ => .assign rfl) (.nil ?_)
            have e8 : ins (if decide (a.sd = 2) = true then 1 else 2) f.next rest = ins (3 - a.sd) f.next rest := by
              rcases hsd with e | e <;> rw [e] <;> rfl
            rw [e8] at hS'
            exact ⟨⟨j, left, v', (b10, .cells a.cells 50) :: h'⟩, .p1 a _ _ rfl hS' hn (by rw [(ins_perm _ _ _).length_eq]; simpa using hLl) hsd, .cons rfl (.cons rfl (.cons rfl (.cons rfl (.cons rfl (.cons rfl (.cons rfl (.cons rfl (.cons rfl (.nil _))))))))), fun _ s => Sat.take (pre := ((b10, .cells a.cells 50) :: h') ++ ((Tb b (Bc B' v1' v2') :: (k1' ++ k2')) ++ [(be, Ch.cells le 50)])) s⟩
          | @meet _ f rest _ _ hk h1 h2 h3 h4 h5 h6 h7 hn =>
            obtain ⟨AS, cS, rfl⟩ := OwnS.sl k
            obtain ⟨bS, oS, lS, rfl, -, rfl, hcc, hcap, -⟩ := k.some_ (by simp)
            have hbnd : oS + 7 ≤ lS.length := by
              have : 1 * 7 ≤ cS * 7 := Nat.mul_le_mul_right _ (by simp only [List.length_cons] at hcc; omega)
              omega
            have hld : ∀ (k' : Nat) (v : Value) (w0 : World) (own : List Nat) (hs : Hp), [(bS, Ch.cells lS 53)] ⊆ hs → k' < 7 → (f.cells)[k']? = some v → At w0 own hs ⟨bS, oS + 0 * 7 + k', none⟩ [v] := fun k' v w0 own hs hh hk' hv => Side.ld (i := 0) k hh (by simp) hk' hv
            refine .cond_dec rfl (fun h => absurd h (by omega)) (fun _ => ?_)
            refine .seq ((.region (.v (.eqi rfl rfl) (.v (.assign rfl) (.nil ?_)))))
            refine .cond_dec rfl (fun h => absurd h (by omega)) (fun _ => ?_)
            refine .seq ((.region (.v (.eqi rfl rfl) (.v (.assign rfl) (.nil ?_)))))
            refine .cond_dec rfl (fun h => absurd h (by omega)) (fun _ => ?_)
            refine .seq ((.region (.v (.eqi rfl rfl) (.v (.assign rfl) (.nil ?_)))))
            refine .cond_dec rfl (fun _ => ?_) (fun h => absurd hk h)
            refine .seq ((.region (.v (.fieldAddr rfl) (.v (.load (v := .int .i64 e.reason) rfl (.one rfl)) (.v (.eqi rfl rfl) (.v (.move rfl) (.and 269 274 5 5 rfl rfl (fun g17 => .v (.fieldAddr rfl) (.v (.load (v := .int .u64 e.id) rfl (.one rfl)) (.v (.fieldAddr rfl) (.v (.load (v := .int .u64 a.id) rfl (.one rfl)) (.v (.nei rfl rfl) (.nil ⟨rfl, rfl, rfl, rfl⟩)))))) (.nil ?_))))))))
            refine .cond rfl (fun _ => ?_) (fun h => ?_)
            case refine_2 =>
              exfalso
              simp only [Bool.and_eq_true, Bool.or_eq_true, Bool.not_eq_true', Bool.and_eq_false_iff, Bool.or_eq_false_iff, Bool.not_eq_false', decide_eq_true_eq, decide_eq_false_iff_not, Bool.false_eq_true, false_iff] at h; omega
            refine .seq (.seq ((.drawK _ (fun _ h => h) (by kernel_rfl) (by kernel_rfl) ?_)))
            refine .v (fun _ F_ => .move rfl) (.v (fun _ F_ => .len rfl) (.v (fun _ F_ => .eqi rfl rfl) (.v (fun _ F_ => .move rfl) (.or 279 286 7 7 rfl rfl (fun g0 => .v (fun _ F_ => .move rfl) (.v (fun _ F_ => .indexAddr rfl rfl (by omega) (by simp)) (.v (fun _ F_ => .fieldAddr rfl) (.v (fun _ F_ => .load (v := .int .u64 f.id) rfl (hld 0 _ _ _ _ (fun p hp => F_ (by simp at hp ⊢; simp [hp])) (by omega) rfl)) (.v (fun _ F_ => .fieldAddr rfl) (.v (fun _ F_ => .load (v := .int .u64 e.id) rfl (.one (hb := .sub F_) rfl)) (.v (fun _ F_ => .nei rfl rfl) (.nil ⟨rfl, rfl, rfl, rfl⟩)))))))) (.v (fun _ F_ => .move rfl) (.or 288 293 5 5 rfl rfl (fun g1 => .v (fun _ F_ => .move rfl) (.v (fun _ F_ => .indexAddr rfl rfl (by omega) (by simp)) (.v (fun _ F_ => .fieldAddr rfl) (.v (fun _ F_ => .load (v := .int .u32 f.mb) rfl (hld 1 _ _ _ _ (fun p hp => F_ (by simp at hp ⊢; simp [hp])) (by omega) rfl)) (.v (fun _ F_ => .eqi rfl rfl) (.nil ⟨rfl, rfl, rfl, rfl⟩)))))) (.v (fun _ F_ => .move rfl) (.or 295 302 7 7 rfl rfl (fun g2 => .v (fun _ F_ => .move rfl) (.v (fun _ F_ => .indexAddr rfl rfl (by omega) (by simp)) (.v (fun _ F_ => .fieldAddr rfl) (.v (fun _ F_ => .load (v := .int .u32 f.mb) rfl (hld 1 _ _ _ _ (fun p hp => F_ (by simp at hp ⊢; simp [hp])) (by omega) rfl)) (.v (fun _ F_ => .fieldAddr rfl) (.v (fun _ F_ => .load (v := .int .u32 a.mb) rfl (.one (hb := .sub F_) rfl)) (.v (fun _ F_ => .nei rfl rfl) (.nil ⟨rfl, rfl, rfl, rfl⟩)))))))) (.v (fun _ F_ => .move rfl) (.or 304 316 12 12 rfl rfl (fun g3 => .v (fun _ F_ => .fieldAddr rfl) (.v (fun _ F_ => .load (v := .int .u64 e.q) rfl (.one (hb := .sub F_) rfl)) (.v (fun _ F_ => .move rfl) (.v (fun _ F_ => .indexAddr rfl rfl (by omega) (by simp)) (.v (fun _ F_ => .fieldAddr rfl) (.v (fun _ F_ => .load (v := .int .u64 f.v) rfl (hld 4 _ _ _ _ (fun p hp => F_ (by simp at hp ⊢; simp [hp])) (by omega) rfl)) (.v (fun _ F_ => .move rfl) (.v (fun _ F_ => .indexAddr rfl rfl (by omega) (by simp)) (.v (fun _ F_ => .fieldAddr rfl) (.v (fun _ F_ => .load (v := .int .u64 f.hd) rfl (hld 5 _ _ _ _ (fun p hp => F_ (by simp at hp ⊢; simp [hp])) (by omega) rfl)) (.v (fun _ F_ => .addU (f.v + f.hd) rfl rfl rfl (by omega)) (.v (fun _ F_ => .nei rfl rfl) (.nil ⟨rfl, rfl, rfl, rfl⟩))))))))))))) (.nil ?_)))))))))))
            refine .cond rfl (fun h => ?_) (fun _ => .skip ?_)
            · exfalso
              simp only [Bool.and_eq_true, Bool.or_eq_true, Bool.not_eq_true', Bool.and_eq_false_iff, Bool.or_eq_false_iff, Bool.not_eq_false', decide_eq_true_eq, decide_eq_false_iff_not, Bool.false_eq_true, false_iff, List.length_cons] at h; omega
            refine .region (.v (.move rfl) (.v (.slLo rfl rfl (by omega) (by simp only [List.length_cons]; omega)) (.v (.assign rfl) (.nil ?_))))
            exact ⟨⟨j, left, (.slice (cutA (some ⟨bS, oS, none⟩) cS 1 7) ((f :: rest).length - 1) (cS - 1)), (b10, .cells a.cells 50) :: [(bS, Ch.cells lS 53)]⟩, .p1 a rest _ rfl (Side.cut1 k (by simp)) hn (by simp only [List.length_cons] at hLl; omega) hsd, .cons rfl (.cons rfl (.cons rfl (.cons rfl (.cons rfl (.cons rfl (.cons rfl (.cons rfl (.cons rfl (.nil _))))))))), fun _ s => Sat.take (pre := ((b10, .cells a.cells 50) :: [(bS, Ch.cells lS 53)]) ++ ((Tb b (Bc B' v1' v2') :: (k1' ++ k2')) ++ [(be, Ch.cells le 50)])) s⟩
          | can hk h1 hn =>
            refine .cond_dec rfl (fun h => absurd h (by omega)) (fun _ => ?_)
            refine .seq ((.region (.v (.eqi rfl rfl) (.v (.assign rfl) (.nil ?_)))))
            refine .cond_dec rfl (fun h => absurd h (by omega)) (fun _ => ?_)
            refine .seq ((.region (.v (.eqi rfl rfl) (.v (.assign rfl) (.nil ?_)))))
            refine .cond_dec rfl (fun h => absurd h (by omega)) (fun _ => ?_)
            refine .seq ((.region (.v (.eqi rfl rfl) (.v (.assign rfl) (.nil ?_)))))
            refine .cond_dec rfl (fun _ => ?_) (fun h => absurd hk h)
            refine .seq ((.region (.v (.fieldAddr rfl) (.v (.load (v := .int .i64 e.reason) rfl (.one rfl)) (.v (.eqi rfl rfl) (.v (.move rfl) (.and 269 274 5 5 rfl rfl (fun g17 => .v (.fieldAddr rfl) (.v (.load (v := .int .u64 e.id) rfl (.one rfl)) (.v (.fieldAddr rfl) (.v (.load (v := .int .u64 a.id) rfl (.one rfl)) (.v (.nei rfl rfl) (.nil ⟨rfl, rfl, rfl, rfl⟩)))))) (.nil ?_))))))))
            refine .cond rfl (fun h => ?_) (fun _ => .skip ?_)
            · exfalso
              simp only [Bool.and_eq_true, Bool.or_eq_true, Bool.not_eq_true', Bool.and_eq_false_iff, Bool.or_eq_false_iff, Bool.not_eq_false', decide_eq_true_eq, decide_eq_false_iff_not, Bool.false_eq_true, false_iff] at h; omega
            exact ⟨⟨j, left, vS, (b10, .cells a.cells 50) :: hS⟩, .p1 a L hS rfl k hn hLl hsd, .cons rfl (.cons rfl (.cons rfl (.cons rfl (.cons rfl (.cons rfl (.cons rfl (.cons rfl (.cons rfl (.nil _))))))))), fun _ s => Sat.take (pre := ((b10, .cells a.cells 50) :: hS) ++ ((Tb b (Bc B' v1' v2') :: (k1' ++ k2')) ++ [(be, Ch.cells le 50)])) s⟩
      · rintro ⟨j', left', vS', hX'⟩ hPI'
        dsimp only at hPI' ⊢
        refine .region (.v (.move rfl) (.v (.addi rfl rfl (by omega)) (.v (.assign rfl) (.nil ?_))))
        refine ⟨⟨j + 1, left', vS', hX'⟩, ⟨by dsimp only; omega, ?_⟩, by dsimp only; omega, .cons rfl (.cons rfl (.cons rfl (.cons rfl (.cons rfl (.cons rfl (.cons rfl (.cons rfl (.cons rfl (.nil _))))))))), fun _ s => s⟩
        cases hPI' with
        | p0 hh hpe => exact .p0 hh hpe
        | p1 a L hS hh k hp hLl hsd => exact .p1 a L hS hh k hp hLl hsd
    · refine .region (.v (.move rfl) (.v (.addi rfl rfl (by omega)) (.v (.assign rfl) (.nil ?_))))
      exact ⟨⟨i + 1, B', _, _, k1', k2'⟩, ⟨by dsimp only; omega, hI', hcap', h1', h2'⟩, by dsimp only; omega, .cons rfl (.cons rfl (.cons rfl (.nil _))), fun _ s => Sat.take (pre := (Tb b (Bc B' v1' v2') :: (k1' ++ k2'))) s⟩
  · refine .seq ((.region (.v (.assign rfl) (.nil ?_))))
    exact .ret ⟨[_], ⟨rfl, trivial⟩, rfl⟩
end Go.Proofs.Ytmfobfamdaajmaa

/- VN: slices of anything that come in: the cells of each element, and what each is read as. -/
namespace Go
namespace V
open Go.RowKit Go.ChangeShapes Go.WideShapes Go.ChangeAt
set_option linter.unusedVariables false

/-- these cells are read as 'd' -/
def TC {H : Type} (enc : TypeId × Value → H) (P : Program) (w : World) (base : Nat) (spare : Nat → Bool) (held : Bool) (t : TypeId) (cs : List Value) (d : DataW H) : Prop :=
  ∃ fuel p, DataW.trod enc P w base spare held fuel t cs = some (d, p)
section
variable {H : Type} {enc : TypeId × Value → H} {P : Program} {w : World} {base : Nat} {spare : Nat → Bool} {held : Bool}
theorem TC.of {t : TypeId} {v : Value} {cs : List Value} {d : DataW H} {p : List MemPlace} (h : DataW.Trod enc P w base spare held t v d p) (hc : v.cells = ⟨cs⟩) : TC enc P w base spare held t cs d := by
  obtain ⟨fuel, hf⟩ := h
  rw [hc] at hf
  exact ⟨fuel, p, hf⟩
theorem TC.int {t : TypeId} {k : IntKind} {cs : List Value} {d : DataW H} (ht : P.underlying t = some (.int k)) (h : TC enc P w base spare held t cs d) : ∃ n, cs = [.int k n] ∧ (Lit.int k n).wf = true := by
  obtain ⟨fuel, p, hf⟩ := h
  obtain ⟨n, h1, _, h2⟩ := DataW.trod_int ht hf
  exact ⟨n, h1, h2⟩
theorem TC.bool {t : TypeId} {cs : List Value} {d : DataW H} (ht : P.underlying t = some .bool) (h : TC enc P w base spare held t cs d) : ∃ b, cs = [.bool b] := by
  obtain ⟨fuel, p, hf⟩ := h
  obtain ⟨b, h1, _⟩ := DataW.trod_bool ht hf
  exact ⟨b, h1⟩
theorem TC.plain {t : TypeId} {cs : List Value} {d : DataW H} {ls : List Lf} (hl : leaves P 8 t = some ls) (hs : P.cellsOf t = ls.length) (h : TC enc P w base spare held t cs d) : okw ls cs := by
  obtain ⟨fuel, p, hf⟩ := h
  exact trod_plain 8 t ls fuel cs _ hl hs hf
/-- a struct's fields -/
theorem TC.struct {t : TypeId} {fs : Array Field} {cs : List Value} {d : DataW H} (ht : P.underlying t = some (.struct fs)) (h : TC enc P w base spare held t cs d) :
    ∃ ds, d = .agg ds ∧ ds.length = fs.size ∧ cs.length = P.cellsOf t ∧ ∀ (i : Nat) (f : Field) (di : DataW H), fs[i]? = some f → ds[i]? = some di → TC enc P w base spare held f.type ((cs.drop f.offset).take (P.cellsOf f.type)) di := by
  obtain ⟨fuel, p, hf⟩ := h
  obtain ⟨xs, n, _, hx, hl, hn, hf⟩ := DataW.trod_struct ht hf
  simp only [Prod.mk.injEq] at hx
  refine ⟨xs.map (·.1), hx.1, by simpa using hn, hl, fun i f di h1 h2 => ?_⟩
  have := hf i f h1
  rw [List.getElem?_map] at h2
  cases h3 : xs[i]? with
  | none => rw [h3] at h2; cases h2
  | some x =>
    rw [h3] at h2 this
    simp at h2
    exact ⟨n, x.2, by rw [this, ← h2]⟩
/-- a slice's elements -/
theorem TC.slice {t e m : Nat} {cs : List Value} {d : DataW H} (ht : P.underlying t = some (.slice e)) (hm : P.cellsOf e = m) (h0 : 0 < m) (h : TC enc P w base spare held t cs d) :
    ∃ A len cap, ∃ (css : List (List Value)) (ds : List (DataW H)), cs = [.slice A len cap] ∧ css.length = len ∧ ds.length = len ∧ (∀ c ∈ css, c.length = m) ∧ (∀ (i : Nat) (c : List Value), css[i]? = some c → ∀ (j : Nat) (v : Value), c[j]? = some v → ∃ b o, A = some ⟨b, o, none⟩ ∧ w.cell? ⟨b, o + (i * m + j), none⟩ = some v) ∧
      (d = .nil ∧ len = 0 ∨ ∃ sp, d = .slice ds sp) ∧ ∀ (i : Nat) (c : List Value) (di : DataW H), css[i]? = some c → ds[i]? = some di → TC enc P w base spare held e c di := by
  obtain ⟨fuel, p, hf⟩ := h
  rcases DataW.trod_slice ht hf with ⟨rfl, hx⟩ | ⟨a, len, cap, elems, rest, n, _, rfl, hx, hb, hl, hc, hn, he, _⟩
  · simp only [Prod.mk.injEq] at hx
    exact ⟨none, 0, 0, [], [], rfl, rfl, rfl, by simp, by simp, .inl ⟨hx.1, rfl⟩, by simp⟩
  · simp only [Prod.mk.injEq] at hx
    rw [hm] at he
    have each : ∀ i, i < len → ∃ c x, w.cells? base (a.add (i * m)) m = some c ∧ DataW.trod enc P w base spare held n e c = some x ∧ elems[i]? = some x := by
      intro i hi
      have := he i hi
      rw [List.getElem?_eq_getElem (by omega)] at this
      obtain ⟨c, h1, h2⟩ := Option.bind_eq_some_iff.1 this
      exact ⟨c, _, h1, h2, List.getElem?_eq_getElem (by omega)⟩
    have hcs : ∃ css : List (List Value), css.length = len ∧ ∀ i c, css[i]? = some c → ∃ x, w.cells? base (a.add (i * m)) m = some c ∧ DataW.trod enc P w base spare held n e c = some x ∧ elems[i]? = some x := by
      have key : ∀ k, k ≤ len → ∃ css : List (List Value), css.length = k ∧ ∀ i c, css[i]? = some c → ∃ x, w.cells? base (a.add (i * m)) m = some c ∧ DataW.trod enc P w base spare held n e c = some x ∧ elems[i]? = some x := by
        intro k
        induction k with
        | zero => intro _; exact ⟨[], rfl, by simp⟩
        | succ k ih =>
          intro hk
          obtain ⟨css, h1, h2⟩ := ih (by omega)
          obtain ⟨c, x, h3⟩ := each k (by omega)
          refine ⟨css ++ [c], by simp [h1], fun i c' hc' => ?_⟩
          by_cases hi : i < k
          · rw [List.getElem?_append_left (by omega)] at hc'
            exact h2 i c' hc'
          · rw [List.getElem?_append_right (by omega)] at hc'
            have hik : i = k := by
              have := (List.getElem?_eq_some_iff.1 hc').1
              simp at this; omega
            subst hik
            simp [h1] at hc'
            subst hc'
            exact ⟨x, h3⟩
      exact key len (Nat.le_refl _)
    obtain ⟨css, h1, h2⟩ := hcs
    refine ⟨some a, len, cap, css, elems.map (·.1), rfl, h1, by simpa using hn, fun c hc => ?_, fun i c hc j v hv => ?_, .inr ⟨_, hx.1⟩, fun i c di hc hdi => ?_⟩
    · obtain ⟨i, hi⟩ := List.mem_iff_getElem?.1 hc
      obtain ⟨x, h3, _⟩ := h2 i c hi
      exact (World.cells?_some h3).2.1
    · obtain ⟨x, h3, _⟩ := h2 i c hc
      obtain ⟨g1, g2, g3⟩ := World.cells?_some h3
      have hj := (List.getElem?_eq_some_iff.1 hv).1
      have hcell := g3 j (by omega)
      rw [hv] at hcell
      obtain ⟨b, o, sp⟩ := a
      have hsp : sp = none := by
        have hlt : 0 < css.length := by
          have := (List.getElem?_eq_some_iff.1 hc).1
          omega
        obtain ⟨x0, k3, _⟩ := h2 0 css[0] (List.getElem?_eq_getElem hlt)
        obtain ⟨_, k2, k4⟩ := World.cells?_some k3
        have := k4 0 h0
        rw [List.getElem?_eq_getElem (by omega)] at this
        simpa [Addr.add] using World.cell?_spot this
      subst hsp
      refine ⟨b, o, rfl, ?_⟩
      rw [add_none, add_none, Nat.add_assoc] at hcell
      exact hcell
    · obtain ⟨x, h3, h4, h5⟩ := h2 i c hc
      rw [List.getElem?_map, h5] at hdi
      simp at hdi
      exact ⟨n, x.2, by rw [h4, ← hdi]⟩
end
/-- one for each number below n -/
theorem list_of {α : Type} {Q : Nat → α → Prop} (n : Nat) (h : ∀ i, i < n → ∃ x, Q i x) : ∃ l : List α, l.length = n ∧ ∀ (i : Nat) (x : α), l[i]? = some x → Q i x := by
  induction n with
  | zero => exact ⟨[], rfl, by simp⟩
  | succ n ih =>
    obtain ⟨l, h1, h2⟩ := ih fun i hi => h i (by omega)
    obtain ⟨x, hx⟩ := h n (by omega)
    refine ⟨l ++ [x], by simp [h1], fun i y hy => ?_⟩
    by_cases hi : i < n
    · rw [List.getElem?_append_left (by omega)] at hy
      exact h2 i y hy
    · rw [List.getElem?_append_right (by omega)] at hy
      have hlt := (List.getElem?_eq_some_iff.1 hy).1
      simp at hlt
      have : i = n := by omega
      subst this
      simp [h1] at hy
      subst hy
      exact hx
section
variable {H : Type} {enc : TypeId × Value → H} {P : Program} {w : World} {base : Nat} {spare : Nat → Bool} {held : Bool}
/-- bytes -/
theorem TC.bytes {t e : Nat} {cs : List Value} {d : DataW H} (ht : P.underlying t = some (.slice e)) (he : P.underlying e = some (.int .u8)) (hm : P.cellsOf e = 1) (h : TC enc P w base spare held t cs d) :
    ∃ A c ys, cs = [.slice A (List.length ys) c] ∧ Rd w [] A (byts ys) ∧ (d = .nil ∧ ys = [] ∨ ∃ ds sp, d = .slice ds sp ∧ ds.length = ys.length) := by
  obtain ⟨A, len, cap, css, ds, h1, h2, h3, h4, h5, h6, h7⟩ := h.slice ht hm (by omega)
  obtain ⟨ys, hy1, hy2⟩ := list_of (Q := fun i (y : BitVec 8) => css[i]? = some [.int .u8 y.toNat]) len (fun i hi => by
    have hc := List.getElem?_eq_getElem (show i < css.length by omega)
    have hd := List.getElem?_eq_getElem (show i < ds.length by omega)
    obtain ⟨n, hn, hw⟩ := (h7 i _ _ hc hd).int he
    have := wf_u8 hw
    refine ⟨BitVec.ofNat 8 n.toNat, ?_⟩
    rw [hc, hn]
    simp
    omega)
  refine ⟨A, cap, ys, by rw [h1, hy1], fun j v hv => ?_, ?_⟩
  · have hj : j < ys.length := by have := (List.getElem?_eq_some_iff.1 hv).1; simpa [byts_length] using this
    rw [byts_get hj] at hv
    have h8 := hy2 j _ (List.getElem?_eq_getElem hj)
    obtain ⟨b, o, e1, e2⟩ := h5 j _ h8 0 v (by simpa using hv)
    exact ⟨b, o, e1, by simp, by simpa using e2⟩
  · rcases h6 with ⟨e1, e2⟩ | ⟨sp, e1⟩
    · exact .inl ⟨e1, List.eq_nil_of_length_eq_zero (by omega)⟩
    · exact .inr ⟨ds, sp, e1, by omega⟩
end
end V
end Go

/- VT: lists of plain records that come in; what their lengths are held to. -/
namespace Go
namespace V
open Go.RowKit Go.ChangeShapes Go.WideShapes Go.ChangeAt
set_option linter.unusedVariables false

theorem flatten_get {m : Nat} : ∀ (rs : List (List Value)), (∀ r ∈ rs, r.length = m) → ∀ (k : Nat) (v : Value), rs.flatten[k]? = some v → ∃ i j r, rs[i]? = some r ∧ r[j]? = some v ∧ k = i * m + j
  | [], _, k, v, h => by simp at h
  | r :: rs, hm, k, v, h => by
    rw [List.flatten_cons] at h
    by_cases hk : k < r.length
    · rw [List.getElem?_append_left hk] at h
      exact ⟨0, k, r, rfl, h, by simp⟩
    · rw [List.getElem?_append_right (by omega)] at h
      obtain ⟨i, j, r', h1, h2, h3⟩ := flatten_get rs (fun r hr => hm r (List.mem_cons_of_mem _ hr)) _ v h
      have := hm r List.mem_cons_self
      exact ⟨i + 1, j, r', by simpa using h1, h2, by rw [Nat.succ_mul]; omega⟩
theorem map_of {α β : Type} {f : α → β} {Q : α → Prop} : ∀ (rs : List β), (∀ r ∈ rs, ∃ x, r = f x ∧ Q x) → ∃ l : List α, rs = l.map f ∧ ∀ x ∈ l, Q x
  | [], _ => ⟨[], rfl, by simp⟩
  | r :: rs, h => by
    obtain ⟨x, h1, h2⟩ := h r List.mem_cons_self
    obtain ⟨l, h3, h4⟩ := map_of rs fun r hr => h r (List.mem_cons_of_mem _ hr)
    exact ⟨x :: l, by simp [h1, h3], fun y hy => by rcases List.mem_cons.1 hy with rfl | hy; exact h2; exact h4 y hy⟩
theorem okw_length : ∀ {ls : List Lf} {cs : List Value}, okw ls cs → cs.length = ls.length
  | [], [], _ => rfl
  | l :: ls, c :: cs, h => by have := okw_length h.2; simp [this]
  | [], _ :: _, h => h.elim
  | _ :: _, [], h => h.elim
section
variable {H : Type} {enc : TypeId × Value → H} {P : Program} {w : World} {base : Nat} {spare : Nat → Bool} {held : Bool}
/-- a slice of plain records -/
theorem TC.recs {t e : Nat} {ls : List Lf} {cs : List Value} {d : DataW H} (ht : P.underlying t = some (.slice e)) (hl : leaves P 8 e = some ls) (hs : P.cellsOf e = ls.length) (h0 : 0 < ls.length) (h : TC enc P w base spare held t cs d) :
    ∃ A cap, ∃ rs : List (List Value), cs = [.slice A rs.length cap] ∧ (∀ r ∈ rs, okw ls r) ∧ Rd w [] A rs.flatten ∧ (d = .nil ∧ rs = [] ∨ ∃ ds sp, d = .slice ds sp ∧ ds.length = rs.length) := by
  obtain ⟨A, len, cap, css, ds, h1, h2, h3, h4, h5, h6, h7⟩ := h.slice ht hs h0
  refine ⟨A, cap, css, by rw [h1, h2], fun r hr => ?_, fun k v hv => ?_, ?_⟩
  · obtain ⟨i, hi, rfl⟩ := List.mem_iff_getElem.1 hr
    exact (h7 i _ _ (List.getElem?_eq_getElem hi) (List.getElem?_eq_getElem (by omega))).plain hl hs
  · obtain ⟨i, j, r, e1, e2, rfl⟩ := flatten_get css h4 k v hv
    obtain ⟨b, o, e3, e4⟩ := h5 i r e1 j v e2
    exact ⟨b, o, e3, by simp, e4⟩
  · rcases h6 with ⟨e1, e2⟩ | ⟨sp, e1⟩
    · exact .inl ⟨e1, List.eq_nil_of_length_eq_zero (by omega)⟩
    · exact .inr ⟨ds, sp, e1, by omega⟩
/-- the weights of a struct's parts -/
theorem sized_agg {ts : List TypeId} {ds : List (DataW H)} (h : (DataW.weightsEach P ts ds).all (· ≤ reachBytes) = true) {j : Nat} {t : TypeId} {fs : Array Field} {parts : List (DataW H)} (ht : ts[j]? = some t) (hd : ds[j]? = some (.agg parts)) (hu : P.underlying t = some (.struct fs)) :
    (DataW.weightsEach P (fs.toList.map (·.type)) parts).all (· ≤ reachBytes) = true := by
  rw [List.all_eq_true]
  intro x hx
  exact List.all_eq_true.1 h _ (DataW.weights_mem_each ht hd x (by simp only [DataW.weights, hu]; exact hx))
theorem sized_len {ts : List TypeId} {ds : List (DataW H)} (h : (DataW.weightsEach P ts ds).all (· ≤ reachBytes) = true) {j n : Nat} {t e : TypeId} {d : DataW H} (ht : ts[j]? = some t) (hd : ds[j]? = some d) (hu : P.underlying t = some (.slice e))
    (hk : d = .nil ∧ n = 0 ∨ ∃ es sp, d = .slice es sp ∧ es.length = n) : n * P.bytesOf e ≤ reachBytes := by
  rcases hk with ⟨_, rfl⟩ | ⟨es, sp, rfl, rfl⟩
  · simp
  · have := sized_slice h ht hd hu
    have h2 : es.length * P.bytesOf e ≤ (es.length + sp.length) * P.bytesOf e := Nat.mul_le_mul_right _ (by omega)
    omega
end
end V
end Go

/- Commands and books as they come in. -/
namespace Go.Proofs.Ytmfobfamdaajmaa
open Go.V Go.ChangeShapes Go.WideShapes Go.ChangeAt
set_option linter.unusedVariables false
set_option linter.unusedSimpArgs false

def I64 (x : Int) : Prop := -9223372036854775808 ≤ x ∧ x ≤ 9223372036854775807
def U32 (x : Int) : Prop := 0 ≤ x ∧ x ≤ 4294967295
theorem wf_i64 {n : Int} (h : (Lit.int .i64 n).wf = true) : I64 n := by
  simp [Lit.wf, IntKind.min, IntKind.max, IntKind.bits, IntKind.signed] at h; unfold I64; omega
theorem wf_u64 {n : Int} (h : (Lit.int .u64 n).wf = true) : U n := by
  simp [Lit.wf, IntKind.min, IntKind.max, IntKind.bits, IntKind.signed] at h; unfold U; omega
theorem wf_u32 {n : Int} (h : (Lit.int .u32 n).wf = true) : U32 n := by
  simp [Lit.wf, IntKind.min, IntKind.max, IntKind.bits, IntKind.signed] at h; unfold U32; omega
/-- an order's fields are in their kinds -/
def Ord.ok (o : Ord) : Prop := U o.id ∧ U32 o.mb ∧ I64 o.ty ∧ I64 o.pr ∧ U o.v ∧ U o.hd ∧ U o.pk
theorem Ord.ok.wf {o : Ord} (h : o.ok) : o.wf := ⟨h.1, h.2.2.2.2.1, h.2.2.2.2.2.1, h.2.2.2.2.2.2⟩
theorem okw_ord {cs : List Value} (h : okw OL cs) : ∃ o : Ord, cs = o.cells ∧ o.ok := by
  match cs, h with
  | [.int _ a, .int _ b, .int _ c, .int _ d, .int _ e, .int _ f, .int _ g], ⟨⟨h1, w1⟩, ⟨h2, w2⟩, ⟨h3, w3⟩, ⟨h4, w4⟩, ⟨h5, w5⟩, ⟨h6, w6⟩, ⟨h7, w7⟩, _⟩ =>
    subst h1; subst h2; subst h3; subst h4; subst h5; subst h6; subst h7
    exact ⟨⟨a, b, c, d, e, f, g⟩, rfl, wf_u64 w1, wf_u32 w2, wf_i64 w3, wf_i64 w4, wf_u64 w5, wf_u64 w6, wf_u64 w7⟩
abbrev CL : List Lf := [.i .i64, .i .u64, .i .u64, .i .u32, .i .i64, .i .i64, .i .i64, .i .u64, .i .u64]
def Cmd (k id tg mb sd ty pr q pk : Int) : Prop := I64 k ∧ U id ∧ U tg ∧ U32 mb ∧ I64 sd ∧ I64 ty ∧ I64 pr ∧ U q ∧ U pk
theorem okw_cmd {cs : List Value} (h : okw CL cs) : ∃ k id tg mb sd ty pr q pk, cs = ccells k id tg mb sd ty pr q pk ∧ Cmd k id tg mb sd ty pr q pk := by
  match cs, h with
  | [.int _ a, .int _ b, .int _ c, .int _ d, .int _ e, .int _ f, .int _ g, .int _ i, .int _ j], ⟨⟨h1, w1⟩, ⟨h2, w2⟩, ⟨h3, w3⟩, ⟨h4, w4⟩, ⟨h5, w5⟩, ⟨h6, w6⟩, ⟨h7, w7⟩, ⟨h8, w8⟩, ⟨h9, w9⟩, _⟩ =>
    subst h1; subst h2; subst h3; subst h4; subst h5; subst h6; subst h7; subst h8; subst h9
    exact ⟨a, b, c, d, e, f, g, i, j, rfl, wf_i64 w1, wf_u64 w2, wf_u64 w3, wf_u32 w4, wf_i64 w5, wf_i64 w6, wf_i64 w7, wf_u64 w8, wf_u64 w9⟩
/-- a side, as it comes in -/
def Len {H : Type} (d : DataW H) (n : Nat) : Prop := d = .nil ∧ n = 0 ∨ ∃ es sp, d = .slice es sp ∧ es.length = n
section
variable {H : Type} {enc : TypeId × Value → H} {w : World} {base : Nat} {spare : Nat → Bool} {held : Bool}
theorem TC.side {cs : List Value} {d : DataW H} (h : TC enc Try.prog w base spare held 28 cs d) :
    ∃ A c, ∃ l : List Ord, cs = [.slice A l.length c] ∧ Rd w [] A (rows l) ∧ (∀ o ∈ l, o.ok) ∧ Len d l.length := by
  obtain ⟨A, c, rs, h1, h2, h3, h4⟩ := h.recs (e := 53) (ls := OL) (by kernel_rfl) (by kernel_rfl) (by kernel_rfl) (by decide)
  obtain ⟨l, rfl, hl⟩ := map_of (f := Ord.cells) (Q := Ord.ok) rs fun r hr => okw_ord (h2 r hr)
  refine ⟨A, c, l, by rw [h1, List.length_map], by rw [rows, List.flatMap_def]; exact h3, hl, ?_⟩
  rcases h4 with ⟨e1, e2⟩ | ⟨ds, sp, e1, e2⟩
  · exact .inl ⟨e1, by simpa using e2⟩
  · exact .inr ⟨ds, sp, e1, by simpa using e2⟩
set_option maxRecDepth 20000 in
theorem read_book {cs : List Value} {d : DataW H} (h : TC enc Try.prog w base spare held 30 cs d) :
    ∃ cap meet A1 c1 A2 c2 high seq, ∃ bs ss : List Ord, cs = bcells cap meet (.slice A1 bs.length c1) (.slice A2 ss.length c2) high seq ∧ I64 cap ∧ I64 meet ∧ U high ∧ U seq ∧ Rd w [] A1 (rows bs) ∧ Rd w [] A2 (rows ss) ∧ (∀ o ∈ bs ++ ss, o.ok) ∧
      ∃ dc d1 d2 dh dq, d = .agg [dc, d1, d2, dh, dq] ∧ Len d1 bs.length ∧ Len d2 ss.length := by
  obtain ⟨ds, rfl, hn, hl, hf⟩ := h.struct Try.underlying30
  match ds, hn with
  | [dc, d1, d2, dh, dq], _ =>
  match cs, hl with
  | [x0, x1, x2, x3, x4, x5], _ =>
  have f0 := (hf 0 _ dc rfl rfl).plain (ls := [.i .i64, .i .i64]) (by kernel_rfl) (by kernel_rfl)
  obtain ⟨A1, c1, bs, e1, r1, o1, n1⟩ := TC.side (hf 1 _ d1 rfl rfl)
  obtain ⟨A2, c2, ss, e2, r2, o2, n2⟩ := TC.side (hf 2 _ d2 rfl rfl)
  obtain ⟨high, e3, w3⟩ := (hf 3 _ dh rfl rfl).int (k := .u64) (by kernel_rfl)
  obtain ⟨seq, e4, w4⟩ := (hf 4 _ dq rfl rfl).int (k := .u64) (by kernel_rfl)
  have z2 : Try.prog.cellsOf 27 = 2 := by kernel_rfl
  have z1 : Try.prog.cellsOf 28 = 1 := by kernel_rfl
  have zu : Try.prog.cellsOf 22 = 1 := by kernel_rfl
  have g0 : okw [.i .i64, .i .i64] [x0, x1] := by simpa [z2] using f0
  have g1 : x2 = .slice A1 bs.length c1 := by simpa [z1] using e1
  have g2 : x3 = .slice A2 ss.length c2 := by simpa [z1] using e2
  have g3 : x4 = .int .u64 high := by simpa [zu] using e3
  have g4 : x5 = .int .u64 seq := by simpa [zu] using e4
  match x0, x1, g0 with
  | .int _ cap, .int _ meet, ⟨⟨p1, w1⟩, ⟨p2, w2⟩, _⟩ =>
    subst p1; subst p2; subst g1; subst g2; subst g3; subst g4
    exact ⟨cap, meet, A1, c1, A2, c2, high, seq, bs, ss, rfl, wf_i64 w1, wf_i64 w2, wf_u64 w3, wf_u64 w4, r1, r2, fun o ho => by rcases List.mem_append.1 ho with ho | ho; exact o1 o ho; exact o2 o ho, dc, d1, d2, dh, dq, rfl, n1, n2⟩
end
end Go.Proofs.Ytmfobfamdaajmaa

/- Lists of commands, as they come in. -/
namespace Go.Proofs.Ytmfobfamdaajmaa
open Go.V Go.ChangeShapes Go.WideShapes Go.ChangeAt
set_option linter.unusedVariables false

def Cm.ok (c : Cm) : Prop := Cmd c.k c.id c.tg c.mb c.sd c.ty c.pr c.q c.pk
theorem Cm.ok.wf {c : Cm} (h : c.ok) : c.wf := ⟨h.2.1, h.2.2.2.2.2.2.2.1, h.2.2.2.2.2.2.2.2⟩
theorem okw_cm {cs : List Value} (h : okw CL cs) : ∃ c : Cm, cs = c.cells ∧ c.ok := by
  obtain ⟨k, id, tg, mb, sd, ty, pr, q, pk, rfl, hc⟩ := okw_cmd h
  exact ⟨⟨k, id, tg, mb, sd, ty, pr, q, pk⟩, rfl, hc⟩
theorem okw_cfg {cs : List Value} (h : okw [.i .i64, .i .i64] cs) : ∃ a b, cs = [.int .i64 a, .int .i64 b] ∧ I64 a ∧ I64 b := by
  match cs, h with
  | [.int _ a, .int _ b], ⟨⟨h1, w1⟩, ⟨h2, w2⟩, _⟩ => subst h1; subst h2; exact ⟨a, b, rfl, wf_i64 w1, wf_i64 w2⟩
section
variable {H : Type} {enc : TypeId × Value → H} {w : World} {base : Nat} {spare : Nat → Bool} {held : Bool}
theorem TC.cmds {cs : List Value} {d : DataW H} (h : TC enc Try.prog w base spare held 44 cs d) :
    ∃ A c, ∃ l : List Cm, cs = [.slice A l.length c] ∧ Rd w [] A (crows l) ∧ (∀ o ∈ l, o.ok) ∧ Len d l.length := by
  obtain ⟨A, c, rs, h1, h2, h3, h4⟩ := h.recs (e := 25) (ls := CL) (by kernel_rfl) (by kernel_rfl) (by kernel_rfl) (by decide)
  obtain ⟨l, rfl, hl⟩ := map_of (f := Cm.cells) (Q := Cm.ok) rs fun r hr => okw_cm (h2 r hr)
  refine ⟨A, c, l, by rw [h1, List.length_map], by rw [crows, List.flatMap_def]; exact h3, hl, ?_⟩
  rcases h4 with ⟨e1, e2⟩ | ⟨ds, sp, e1, e2⟩
  · exact .inl ⟨e1, by simpa using e2⟩
  · exact .inr ⟨ds, sp, e1, by simpa using e2⟩
end
end Go.Proofs.Ytmfobfamdaajmaa
