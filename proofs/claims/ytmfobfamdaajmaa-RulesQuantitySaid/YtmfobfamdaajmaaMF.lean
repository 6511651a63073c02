/- MF: several texts in one. -/
import Derived.Test.YtmfobfamdaajmaaME
import Derived.Test.YtmfobfamdaajmaaMC
import Derived.Test.YtmfobfamdaajmaaMB
/- Plain: a book stays one that can be. -/
namespace Go.Proofs.Ytmfobfamdaajmaa
open Go.V
set_option linter.unusedVariables false
set_option linter.unusedSimpArgs false

def ids (l : List Ord) : List Int := l.map Ord.id
def Sd (s : Int) (l : List Ord) : Prop := l.Pairwise (fun a b => bet s b.pr a.pr = false)
theorem Sd.srt {s : Int} {l : List Ord} (h : Sd s l) : Srt s l := fun i hi h0 => List.pairwise_iff_getElem.1 h (i - 1) i (by omega) hi (by omega)
theorem Srt.sd {s : Int} : ∀ {l : List Ord}, Srt s l → Sd s l
  | [], _ => .nil
  | x :: l, h => by
    have hl : Srt s l := fun i hi h0 => by
      have := h (i + 1) (by simpa using hi) (by omega)
      simp only [List.getElem_cons_succ, Nat.add_sub_cancel] at this
      obtain ⟨k, rfl⟩ : ∃ k, i = k + 1 := ⟨i - 1, by omega⟩
      exact this
    have ih := Srt.sd hl
    refine .cons (fun y hy => ?_) ih
    cases l with
    | nil => cases hy
    | cons z l =>
      have h1 : bet s z.pr x.pr = false := h 1 (by simp) (by omega)
      rcases List.mem_cons.1 hy with rfl | hy
      · exact h1
      · have h2 := List.rel_of_pairwise_cons ih hy
        unfold bet at h1 h2 ⊢
        split at h1 <;> simp_all <;> omega
theorem Dist.of {l : List Ord} (h : (ids l).Nodup) : Dist l := fun i hi j hj => by
  have h' : l.Pairwise (fun a b => a.id ≠ b.id) := List.pairwise_map.1 h
  exact fun e => List.pairwise_iff_getElem.1 h' j i (by omega) hi hj e.symm
theorem Dist.nd {l : List Ord} (h : Dist l) : (ids l).Nodup := by
  refine List.pairwise_map.2 (List.pairwise_iff_getElem.2 fun i j hi hj hij => fun e => h j hj i hij e.symm)
/-- an order put behind all that are not worse -/
def ins (s : Int) (o : Ord) : List Ord → List Ord
  | [] => [o]
  | x :: l => if bet s o.pr x.pr = true then o :: x :: l else x :: ins s o l
theorem bet_tr {s p x y : Int} (h : bet s p x = true) (h2 : bet s y x = false) : bet s p y = true := by
  unfold bet at *
  split at h <;> simp_all <;> omega
theorem rst_ins {s : Int} {o : Ord} : ∀ {l : List Ord}, Sd s l → rst s o l = ins s o l
  | [], _ => rfl
  | x :: l, h => by
    have ih := rst_ins (o := o) (List.Pairwise.of_cons h)
    by_cases c : bet s o.pr x.pr = true
    · have hl : l.all (fun x => bet s o.pr x.pr) = true := List.all_eq_true.2 fun y hy => bet_tr c (List.rel_of_pairwise_cons h hy)
      have : rpos s o.pr (x :: l) = 0 := by unfold rpos; rw [c, hl]; rfl
      unfold rst ins; rw [this, if_pos c]; rfl
    · have : rpos s o.pr (x :: l) = rpos s o.pr l + 1 := by
        rw [rpos]; simp only [Bool.not_eq_true] at c; rw [c]; rfl
      unfold ins; rw [if_neg c, ← ih]; unfold rst; rw [this]; rfl
theorem rst_perm (s : Int) (o : Ord) (l : List Ord) : (rst s o l).Perm (o :: l) := by
  unfold rst
  rw [List.append_assoc, List.singleton_append]
  refine List.perm_middle.trans ?_
  rw [List.take_append_drop]
theorem ins_perm (s : Int) (o : Ord) : ∀ (l : List Ord), (ins s o l).Perm (o :: l)
  | [] => .refl _
  | x :: l => by
    unfold ins; split
    · exact .refl _
    · exact ((ins_perm s o l).cons x).trans (.swap o x l)
theorem ins_sd {s : Int} {o : Ord} : ∀ {l : List Ord}, Sd s l → Sd s (ins s o l)
  | [], _ => List.pairwise_singleton _ _
  | x :: l, h => by
    have ih := ins_sd (o := o) (List.Pairwise.of_cons h)
    unfold ins; split
    · rename_i c
      refine .cons (fun y hy => ?_) h
      have hy' : bet s o.pr y.pr = true := by
        rcases List.mem_cons.1 hy with rfl | hy
        · exact c
        · exact bet_tr c (List.rel_of_pairwise_cons h hy)
      unfold bet at hy' ⊢; split at hy' <;> simp_all <;> omega
    · rename_i c
      refine .cons (fun y hy => ?_) ih
      rcases List.mem_cons.1 ((ins_perm s o l).mem_iff.1 hy) with rfl | hy
      · simpa using c
      · exact List.rel_of_pairwise_cons h hy
/-- an order that can rest -/
def Ord.V (o : Ord) (high : Int) : Prop := o.rests high ∧ o.wf
theorem Ord.V.G {o : Ord} {h : Int} (k : o.V h) : o.G := by
  obtain ⟨k1, k2⟩ := k
  unfold Ord.rests Rests at k1; unfold Ord.wf U at k2; unfold Ord.G; omega
theorem Ord.V.up {o : Ord} {h h' : Int} (k : o.V h) (e : h ≤ h') : o.V h' := by
  obtain ⟨k1, k2⟩ := k
  refine ⟨?_, k2⟩
  unfold Ord.rests Rests at k1 ⊢; omega
theorem less_V {f : Ord} {q h : Int} (k : f.V h) (h0 : 0 < q) (h1 : 0 < f.v - q) : (f.less q).V h := by
  obtain ⟨k1, k2⟩ := k
  unfold Ord.less
  refine ⟨?_, ?_⟩
  · unfold Ord.rests Rests at k1 ⊢; simp only; omega
  · unfold Ord.wf U at k2 ⊢; simp only; omega
theorem next_V {f : Ord} {h : Int} (k : f.V h) (h1 : 0 < f.hd) : f.next.V h := by
  obtain ⟨k1, k2⟩ := k
  unfold Ord.next
  refine ⟨?_, ?_⟩
  · unfold Ord.rests Rests at k1 ⊢; unfold Ord.wf U at k2; simp only; omega
  · unfold Ord.rests Rests at k1; unfold Ord.wf U at k2 ⊢; simp only; omega
/-- what trading leaves of a side -/
structure Keeps (sd : Int) (L L' : List Ord) : Prop where
  rests : ∀ hg, (∀ o ∈ L, o.V hg) → ∀ o ∈ L', o.V hg
  sd : Sd sd L'
  ids : ∃ x, (x ++ ids L').Perm (ids L)
  pr : ∀ o ∈ L', ∃ p ∈ L, p.pr = o.pr
theorem Keeps.refl {s : Int} {L : List Ord} (h : Sd s L) : Keeps s L L := ⟨fun _ h => h, h, ⟨[], .refl _⟩, fun o h => ⟨o, h, rfl⟩⟩
theorem Keeps.trans {s : Int} {L L' L'' : List Ord} (h : Keeps s L L') (k : Keeps s L' L'') : Keeps s L L'' := by
  obtain ⟨x, hx⟩ := h.ids
  obtain ⟨y, hy⟩ := k.ids
  refine ⟨fun hg q => k.rests hg (h.rests hg q), k.sd, ⟨x ++ y, ?_⟩, fun o ho => ?_⟩
  · rw [List.append_assoc]; exact (hy.append_left x).trans hx
  · obtain ⟨p, hp, e⟩ := k.pr o ho
    obtain ⟨q, hq, e'⟩ := h.pr p hp
    exact ⟨q, hq, e'.trans e⟩
theorem Keeps.tail {s : Int} {f : Ord} {L : List Ord} (h : Sd s (f :: L)) : Keeps s (f :: L) L :=
  ⟨fun hg k o ho => k o (by simp [ho]), List.Pairwise.of_cons h, ⟨[f.id], .refl _⟩, fun o ho => ⟨o, by simp [ho], rfl⟩⟩
theorem step_keeps {meet : Int} {t : Tk} {s s' : TS} (hs : s.step meet t = some s') (hsd : Sd (3 - t.side) s.L) : Keeps (3 - t.side) s.L s'.L := by
  obtain ⟨L, left, seq, evs⟩ := s
  unfold TS.step at hs
  simp only at hs hsd ⊢
  cases L with
  | nil => cases hs
  | cons f rest =>
    simp only at hs
    split at hs
    · rename_i hc
      simp only [Option.some.injEq] at hs
      subst hs
      split
      · simp only [TS.meets]
        by_cases m1 : meet = 1
        · rw [if_pos m1, if_neg (show ¬ meet = 2 by omega)]
          exact .refl hsd
        · rw [if_neg m1]
          by_cases m2 : meet = 2
          · rw [if_pos m2]; exact .tail hsd
          · rw [if_neg m2]; exact .tail hsd
      · simp only [TS.hit]
        by_cases c1 : 0 < f.v - min left f.v
        · rw [if_pos c1]
          refine ⟨fun hg k o ho => ?_, ?_, ⟨[], .refl _⟩, fun o ho => ?_⟩
          · rcases List.mem_cons.1 ho with rfl | ho
            · refine less_V (k f (by simp)) ?_ c1
              have := hc.1; omega
            · exact k o (by simp [ho])
          · exact .cons (fun y hy => List.rel_of_pairwise_cons hsd hy) (List.Pairwise.of_cons hsd)
          · rcases List.mem_cons.1 ho with rfl | ho
            · exact ⟨f, by simp, rfl⟩
            · exact ⟨o, by simp [ho], rfl⟩
        · rw [if_neg c1]
          by_cases c2 : 0 < f.hd
          · rw [if_pos c2]
            show Keeps _ _ (rst (3 - t.side) f.next rest)
            refine ⟨fun hg k o ho => ?_, ?_, ⟨[], ?_⟩, fun o ho => ?_⟩
            · rcases rst_mem ho with rfl | ho
              · exact next_V (k f (by simp)) c2
              · exact k o (by simp [ho])
            · rw [rst_ins (List.Pairwise.of_cons hsd)]; exact ins_sd (List.Pairwise.of_cons hsd)
            · exact (rst_perm (3 - t.side) f.next rest).map Ord.id
            · rcases rst_mem ho with rfl | ho
              · exact ⟨f, by simp, rfl⟩
              · exact ⟨o, by simp [ho], rfl⟩
          · rw [if_neg c2]; exact .tail hsd
    · cases hs
theorem TRun.keeps {meet : Int} {t : Tk} {s z : TS} (h : TRun meet t s z) (hsd : Sd (3 - t.side) s.L) : Keeps (3 - t.side) s.L z.L ∧ z.step meet t = none := by
  induction h with
  | stop hs => exact ⟨.refl hsd, hs⟩
  | step hs _ ih =>
    have h1 := step_keeps hs hsd
    obtain ⟨i1, i2⟩ := ih h1.sd
    exact ⟨h1.trans i1, i2⟩
/-- a book that can be -/
structure Bk.Vl (B : Bk) : Prop where
  cfg : Cfg B.cap B.meet
  len : (B.bs.length : Int) + B.ss.length ≤ B.cap
  rests : ∀ o ∈ B.bs ++ B.ss, o.V B.high
  nd : (ids (B.bs ++ B.ss)).Nodup
  s1 : Sd 1 B.bs
  s2 : Sd 2 B.ss
  cross : ∀ b ∈ B.bs, ∀ s ∈ B.ss, b.pr < s.pr
theorem Bk.Vl.inv {B : Bk} (h : B.Vl) : B.Inv := ⟨h.cfg.1, h.cfg.2.1, h.len, fun o ho => (h.rests o ho).G⟩
theorem crossB_false {bs ss : List Ord} (h : ∀ b ∈ bs, ∀ s ∈ ss, b.pr < s.pr) : crossB bs ss = false := by
  cases bs with
  | nil => rfl
  | cons b bs =>
    cases ss with
    | nil => rfl
    | cons s ss =>
      have := h b (by simp) s (by simp)
      unfold crossB; simp; omega
theorem Bk.Vl.vld {B : Bk} (h : B.Vl) : vld B.cap B.meet B.high B.bs B.ss = 0 := by
  have := h.cfg; have := h.len
  unfold Cfg at *
  rw [Proofs.Ytmfobfamdaajmaa.vld, if_pos ⟨h.cfg, by omega, by omega, by omega, fun o ho => (h.rests o ho).1, .of h.nd, h.s1.srt, h.s2.srt, crossB_false h.cross⟩]
theorem newB_vl {c m : Int} (h : Cfg c m) : (newB c m).Vl := ⟨h, by unfold Cfg at h; simp [newB]; omega, by simp [newB], by simp [newB, Proofs.Ytmfobfamdaajmaa.ids], .nil, .nil, by simp [newB]⟩
theorem num_vl {B : Bk} (q : Int) (h : B.Vl) : (B.num q).Vl := ⟨h.cfg, h.len, h.rests, h.nd, h.s1, h.s2, h.cross⟩
theorem top_vl {B : Bk} {q : Int} (h : B.Vl) (e : B.high ≤ q) : (B.top q).Vl := ⟨h.cfg, h.len, fun o ho => (h.rests o ho).up e, h.nd, h.s1, h.s2, h.cross⟩
theorem nd_of {l l' : List Ord} (h : ∃ x, (x ++ ids l').Perm (ids l)) (hn : (ids l).Nodup) : (ids l').Nodup := by
  obtain ⟨x, hx⟩ := h
  exact (List.nodup_append.1 (hx.nodup_iff.2 hn)).2.1
theorem ids_app (a b : List Ord) : ids (a ++ b) = ids a ++ ids b := List.map_append
theorem ids_mem {l l' : List Ord} (h : ∃ x, (x ++ ids l').Perm (ids l)) : ∀ i ∈ ids l', i ∈ ids l := fun i hi => by
  obtain ⟨x, hx⟩ := h
  exact hx.mem_iff.1 (List.mem_append_right _ hi)
/-- one side of a book that can be, less -/
theorem put1_vl {B : Bk} {l : List Ord} (h : B.Vl) (k : Keeps 1 B.bs l) (hl : l.length ≤ B.bs.length) : (B.put 1 l).Vl := by
  have hlen := h.len
  refine ⟨h.cfg, by show (l.length : Int) + B.ss.length ≤ B.cap; omega, fun o ho => ?_, ?_, k.sd, h.s2, fun b hb s hs => ?_⟩
  · rcases List.mem_append.1 (show o ∈ l ++ B.ss from ho) with ho | ho
    · exact k.rests _ (fun o ho => h.rests o (by simp [ho])) o ho
    · exact h.rests o (by simp [ho])
  · show (ids (l ++ B.ss)).Nodup
    obtain ⟨x, hx⟩ := k.ids
    refine nd_of ⟨x, ?_⟩ h.nd
    rw [ids_app, ids_app, ← List.append_assoc]
    exact hx.append_right _
  · obtain ⟨p, hp, e⟩ := k.pr b hb
    have := h.cross p hp s hs; omega
theorem put2_vl {B : Bk} {l : List Ord} (h : B.Vl) (k : Keeps 2 B.ss l) (hl : l.length ≤ B.ss.length) : (B.put 2 l).Vl := by
  have hlen := h.len
  refine ⟨h.cfg, by show (B.bs.length : Int) + l.length ≤ B.cap; omega, fun o ho => ?_, ?_, h.s1, k.sd, fun b hb s hs => ?_⟩
  · rcases List.mem_append.1 (show o ∈ B.bs ++ l from ho) with ho | ho
    · exact h.rests o (by simp [ho])
    · exact k.rests _ (fun o ho => h.rests o (by simp [ho])) o ho
  · show (ids (B.bs ++ l)).Nodup
    obtain ⟨x, hx⟩ := k.ids
    refine nd_of ⟨x, ?_⟩ h.nd
    rw [ids_app, ids_app]
    have h1 : (x ++ (ids B.bs ++ ids l)).Perm (ids B.bs ++ (x ++ ids l)) := by
      rw [← List.append_assoc, ← List.append_assoc]
      exact List.perm_append_comm.append_right _
    exact h1.trans (hx.append_left _)
  · obtain ⟨p, hp, e⟩ := k.pr s hs
    have := h.cross b hb p hp; omega
theorem Keeps.erase {s : Int} {L : List Ord} (h : Sd s L) (i : Nat) : Keeps s L (L.eraseIdx i) := by
  refine ⟨fun hg k o ho => k o (List.mem_of_mem_eraseIdx ho), h.sublist (List.eraseIdx_sublist ..), ?_, fun o ho => ⟨o, List.mem_of_mem_eraseIdx ho, rfl⟩⟩
  by_cases hi : i < L.length
  · refine ⟨[L[i].id], ?_⟩
    have e : L = L.take i ++ L[i] :: L.drop (i + 1) := by rw [← List.drop_eq_getElem_cons hi, List.take_append_drop]
    have e2 : Proofs.Ytmfobfamdaajmaa.ids L = Proofs.Ytmfobfamdaajmaa.ids (L.take i ++ L[i] :: L.drop (i + 1)) := congrArg Proofs.Ytmfobfamdaajmaa.ids e
    rw [e2, List.eraseIdx_eq_take_drop_succ]
    simp only [Proofs.Ytmfobfamdaajmaa.ids, List.map_append, List.map_cons]
    exact (List.perm_middle (l₁ := List.map Ord.id (L.take i)) (a := L[i].id) (l₂ := List.map Ord.id (L.drop (i + 1)))).symm
  · rw [List.eraseIdx_of_length_le (by omega)]; exact ⟨[], .refl _⟩
theorem goes_vl {B : Bk} {c : Cm} (h : B.Vl) (ht : c.k ≠ 1 → B.tgt c ≠ none) : (B.goes c).Vl := by
  unfold Bk.goes
  by_cases hk : c.k ≠ 1
  · rw [if_pos hk]
    rcases at_spec B c with ⟨_, h', _⟩ | ⟨s, hs, i, hi, e, _, _⟩
    · exact absurd h' (ht hk)
    rw [e]
    simp only [Int.toNat_natCast]
    refine num_vl _ ?_
    rcases hs with rfl | rfl
    · exact put1_vl h (.erase h.s1 i) (List.length_eraseIdx_le ..)
    · exact put2_vl h (.erase h.s2 i) (List.length_eraseIdx_le ..)
  · rw [if_neg hk]; exact h
theorem goes_fresh {B : Bk} {c : Cm} {x : Int} (h : ∀ o ∈ B.bs ++ B.ss, o.id < x) : ∀ o ∈ (B.goes c).bs ++ (B.goes c).ss, o.id < x := fun o ho => h o (Bk.goes_mem ho)
/-- trading keeps a book one that can be; at its end the other side's best is not reached -/
theorem traded_vl {B : Bk} {t : Tk} {evs : List Ev} {z : TS} (h : B.Vl) (hs : t.side = 1 ∨ t.side = 2) (hr : TRun B.meet t (B.ts evs t) z) (hz : z.L.length ≤ (B.side (3 - t.side)).length) :
    (B.traded t z).Vl ∧ ids ((B.traded t z).bs ++ (B.traded t z).ss) ⊆ ids (B.bs ++ B.ss) ∧ (B.traded t z).side t.side = B.side t.side ∧ (B.traded t z).side (3 - t.side) = z.L ∧
      (0 < z.left → t.kind ≠ 2 → ∀ x ∈ z.L, bet t.side x.pr t.o.pr = true) := by
  obtain ⟨_, _, bs, ss, _, _⟩ := B
  rcases hs with hs | hs
  · have hk := hr.keeps (by show Sd _ _; simp only [Bk.ts, Bk.side, hs]; exact h.s2)
    simp only [Bk.ts, Bk.side, hs] at hk hz
    obtain ⟨hk, hn⟩ := hk
    refine ⟨?_, ?_, ?_, ?_, fun hl h2 x hx => ?_⟩
    · unfold Bk.traded; rw [hs]; exact num_vl _ (put2_vl h hk hz)
    · unfold Bk.traded Bk.put Bk.num; rw [hs]
      show ids (bs ++ z.L) ⊆ ids (bs ++ ss)
      intro i hi
      rw [ids_app, List.mem_append] at hi ⊢
      exact hi.imp id (ids_mem hk.ids i)
    · unfold Bk.traded Bk.put Bk.num Bk.side; simp [hs]
    · unfold Bk.traded Bk.put Bk.num Bk.side; simp [hs]
    · rw [hs]
      obtain ⟨L, left, _, _⟩ := z
      cases L with
      | nil => cases hx
      | cons f L =>
        unfold TS.step at hn
        simp only at hn hl
        split at hn
        · cases hn
        · rename_i hc
          have hf : bet 1 f.pr t.o.pr = true := by
            have hr' : ¬ reach t.side t.kind t.o.pr f.pr = true := fun e => hc ⟨hl, e⟩
            unfold reach at hr'
            rw [hs] at hr'
            simpa [h2] using hr'
          rcases List.mem_cons.1 hx with rfl | hx
          · exact hf
          · have := List.rel_of_pairwise_cons hk.sd hx
            unfold bet at hf this ⊢; simp at hf this ⊢; omega
  · have hk := hr.keeps (by show Sd _ _; simp only [Bk.ts, Bk.side, hs]; exact h.s1)
    simp only [Bk.ts, Bk.side, hs] at hk hz
    obtain ⟨hk, hn⟩ := hk
    refine ⟨?_, ?_, ?_, ?_, fun hl h2 x hx => ?_⟩
    · unfold Bk.traded; rw [hs]; exact num_vl _ (put1_vl h hk hz)
    · unfold Bk.traded Bk.put Bk.num; rw [hs]
      show ids (z.L ++ ss) ⊆ ids (bs ++ ss)
      intro i hi
      rw [ids_app, List.mem_append] at hi ⊢
      exact hi.imp (ids_mem hk.ids i) id
    · unfold Bk.traded Bk.put Bk.num Bk.side; simp [hs]
    · unfold Bk.traded Bk.put Bk.num Bk.side; simp [hs]
    · rw [hs]
      obtain ⟨L, left, _, _⟩ := z
      cases L with
      | nil => cases hx
      | cons f L =>
        unfold TS.step at hn
        simp only at hn hl
        split at hn
        · cases hn
        · rename_i hc
          have hf : bet 2 f.pr t.o.pr = true := by
            have hr' : ¬ reach t.side t.kind t.o.pr f.pr = true := fun e => hc ⟨hl, e⟩
            unfold reach at hr'
            rw [hs] at hr'
            simpa [h2] using hr'
          rcases List.mem_cons.1 hx with rfl | hx
          · exact hf
          · have := List.rel_of_pairwise_cons hk.sd hx
            unfold bet at hf this ⊢; simp at hf this ⊢; omega
theorem put_vl1 {B : Bk} {o : Ord} (h : B.Vl) (hs : o.V B.high) (hf : ∀ i ∈ ids (B.bs ++ B.ss), i ≠ o.id) (hc : (B.bs.length : Int) + B.ss.length < B.cap) (hx : ∀ s ∈ B.ss, o.pr < s.pr) : (B.put 1 (rst 1 o B.bs)).Vl := by
  have hp := rst_perm 1 o B.bs
  refine ⟨h.cfg, ?_, fun x hxm => ?_, ?_, ?_, h.s2, fun b hb s hs' => ?_⟩
  · show ((rst 1 o B.bs).length : Int) + B.ss.length ≤ B.cap
    rw [rst_length]; omega
  · rcases List.mem_append.1 (show x ∈ rst 1 o B.bs ++ B.ss from hxm) with hm | hm
    · rcases rst_mem hm with rfl | hm
      · exact hs
      · exact h.rests x (by simp [hm])
    · exact h.rests x (by simp [hm])
  · show (ids (rst 1 o B.bs ++ B.ss)).Nodup
    have : (ids (rst 1 o B.bs ++ B.ss)).Perm (o.id :: ids (B.bs ++ B.ss)) := by
      have := (hp.append_right B.ss).map Ord.id
      exact this
    refine this.nodup_iff.2 (List.nodup_cons.2 ⟨fun hm => hf _ hm rfl, h.nd⟩)
  · show Sd 1 (rst 1 o B.bs)
    rw [rst_ins h.s1]; exact ins_sd h.s1
  · rcases rst_mem (show b ∈ rst 1 o B.bs from hb) with rfl | hm
    · exact hx s hs'
    · exact h.cross b hm s hs'
theorem put_vl2 {B : Bk} {o : Ord} (h : B.Vl) (hs : o.V B.high) (hf : ∀ i ∈ ids (B.bs ++ B.ss), i ≠ o.id) (hc : (B.bs.length : Int) + B.ss.length < B.cap) (hx : ∀ s ∈ B.bs, s.pr < o.pr) : (B.put 2 (rst 2 o B.ss)).Vl := by
  have hp := rst_perm 2 o B.ss
  refine ⟨h.cfg, ?_, fun x hxm => ?_, ?_, h.s1, ?_, fun b hb s hs' => ?_⟩
  · show (B.bs.length : Int) + (rst 2 o B.ss).length ≤ B.cap
    rw [rst_length]; omega
  · rcases List.mem_append.1 (show x ∈ B.bs ++ rst 2 o B.ss from hxm) with hm | hm
    · exact h.rests x (by simp [hm])
    · rcases rst_mem hm with rfl | hm
      · exact hs
      · exact h.rests x (by simp [hm])
  · show (ids (B.bs ++ rst 2 o B.ss)).Nodup
    have : (ids (B.bs ++ rst 2 o B.ss)).Perm (o.id :: ids (B.bs ++ B.ss)) := by
      have := ((hp.append_left B.bs).trans List.perm_middle).map Ord.id
      exact this
    refine this.nodup_iff.2 (List.nodup_cons.2 ⟨fun hm => hf _ hm rfl, h.nd⟩)
  · show Sd 2 (rst 2 o B.ss)
    rw [rst_ins h.s2]; exact ins_sd h.s2
  · rcases rst_mem (show s ∈ rst 2 o B.ss from hs') with rfl | hm
    · exact hx b hb
    · exact h.cross b hb s hm
theorem restOf_V {o : Ord} {left q hg : Int} (h0 : left ≠ 0) (h1 : 0 ≤ left) (h2 : left ≤ q) (h3 : q ≤ 4294967295) (h4 : o.pk ≤ q) (h5 : 0 ≤ o.pk) (h6 : o.pk = 0 ∨ q ≤ 256 * o.pk) (hid : 1 ≤ o.id ∧ o.id ≤ hg) (hu : U o.id) (ht : o.ty = 1 ∨ o.ty = 5) (hp : 0 ≤ o.pr ∧ o.pr < 262144) : (restOf o left).V hg := by
  unfold restOf Ord.V Ord.rests Rests Ord.wf U at *
  simp only
  split <;> omega
/-- an order that can come -/
structure Tk.V (t : Tk) (B : Bk) : Prop where
  sd : t.side = 1 ∨ t.side = 2
  q : 1 ≤ t.left ∧ t.left ≤ 4294967295
  pk : 0 ≤ t.o.pk ∧ t.o.pk ≤ t.left
  pk2 : t.o.pk = 0 ∨ t.left ≤ 256 * t.o.pk
  room : t.kind = 1 ∨ t.kind = 5 → (B.bs.length : Int) + B.ss.length < B.cap
  id : 1 ≤ t.o.id ∧ U t.o.id
  ty : t.o.ty = t.kind
  pr : 0 ≤ t.o.pr ∧ t.o.pr < 262144
  kd : 1 ≤ t.kind ∧ t.kind ≤ 5
  fresh : ∀ i ∈ ids (B.bs ++ B.ss), i < t.o.id
  post : t.kind = 5 → headReach t.side t.kind t.o.pr (B.side (3 - t.side)) = false
theorem ts_ok' {B : Bk} {evs : List Ev} {t : Tk} (h : B.Vl) (k : t.V B) : (B.ts evs t).Ok := ts_ok h.inv.good (by have := k.q; omega) (by have := k.q; omega)
theorem comes_vl {B : Bk} {evs : List Ev} {t : Tk} (h : B.Vl) (k : t.V B) (hh : t.o.id ≤ B.high) : (B.comes evs t).1.Vl := by
  have hOk : (B.ts evs t).Ok := ts_ok' h k
  have hrun := tr_run (meet := B.meet) (t := t) hOk
  obtain ⟨zok, zlen, _, zl⟩ := hrun.ok hOk
  unfold Bk.comes
  split
  · exact num_vl _ h
  · simp only
    generalize tr B.meet t (B.ts evs t) = z at *
    obtain ⟨v1, v2, v3, v4, v5⟩ := traded_vl h k.sd hrun zlen
    split
    · exact v1
    · rename_i hl0
      split
      · exact num_vl _ v1
      · rename_i hk
        have hc := B.put_cap (3 - t.side) z.L
        have hlo := zok.lo
        have hG : (restOf t.o z.left).V (B.traded t z).high := restOf_V (q := t.left) hl0 hlo zl k.q.2 k.pk.2 k.pk.1 k.pk2 ⟨k.id.1, by show _ ≤ (B.put (3 - t.side) z.L).high; rw [hc.2.2.1]; exact hh⟩ k.id.2 (by rw [k.ty]; omega) k.pr
        have hf : ∀ i ∈ ids ((B.traded t z).bs ++ (B.traded t z).ss), i ≠ (restOf t.o z.left).id := fun i hi e => by
          have := k.fresh i (v2 hi)
          have e2 : (restOf t.o z.left).id = t.o.id := rfl
          omega
        have hcap : ((B.traded t z).bs.length : Int) + (B.traded t z).ss.length < (B.traded t z).cap := by
          have h1 := k.room (by omega)
          have h2 := (traded_inv (t := t) h.inv zok zlen).2
          have h3 : (B.traded t z).cap = B.cap := hc.1
          omega
        have hx := v5 (by omega) (by omega)
        have e2 : (restOf t.o z.left).pr = t.o.pr := rfl
        generalize B.traded t z = B1 at *
        rcases k.sd with hs | hs
        · rw [hs] at v3 v4 hx ⊢
          exact put_vl1 v1 hG hf hcap fun s hs' => by
            have := hx s (by rw [← v4]; exact hs')
            unfold bet at this; simp at this; omega
        · rw [hs] at v3 v4 hx ⊢
          exact put_vl2 v1 hG hf hcap fun s hs' => by
            have := hx s (by rw [← v4]; exact hs')
            unfold bet at this; simp at this; omega
theorem cmg_ty {c : Cm} {tg : Option Ord} {side : Int} : (cmg c tg side).o.ty = (cmg c tg side).kind := by
  unfold cmg
  cases tg with
  | none => rfl
  | some o => simp only; split <;> rfl
theorem cmg_kd {c : Cm} {tg : Option Ord} {side : Int} (h1 : c.k = 1 → 1 ≤ c.ty ∧ c.ty ≤ 5) (hk : c.k = 1 ∨ c.k = 3) (h3 : c.k = 3 → tg ≠ none) (ht : ∀ o, tg = some o → o.ty = 1 ∨ o.ty = 5) : 1 ≤ (cmg c tg side).kind ∧ (cmg c tg side).kind ≤ 5 := by
  unfold cmg
  cases tg with
  | none =>
    rcases hk with hk | hk
    · exact h1 hk
    · exact absurd rfl (h3 hk)
  | some o =>
    simp only; split
    · have := ht o rfl; show 1 ≤ o.ty ∧ o.ty ≤ 5; omega
    · rename_i hk'
      exact h1 (by omega)
theorem tgt_mem {B : Bk} {c : Cm} {o : Ord} (h : B.tgt c = some o) : o ∈ B.bs ++ B.ss ∧ ((B.at_ c).1 = 1 ∨ (B.at_ c).1 = 2) ∧ o.id = c.tg := by
  rcases at_spec B c with ⟨_, h', _⟩ | ⟨s, hs, i, hi, e, h', hid⟩
  · rw [h'] at h; cases h
  · rw [h'] at h; cases h
    exact ⟨B.side_sub _ _ (List.getElem_mem hi), by rw [e]; exact hs, hid⟩
theorem head_sub {s k p : Int} {l l' : List Ord} (h : headReach s k p l = false) (hl : ∀ y ∈ l', ∃ x ∈ l, x.pr = y.pr) (hs : Sd (3 - s) l) (hsd : s = 1 ∨ s = 2) : headReach s k p l' = false := by
  cases l' with
  | nil => rfl
  | cons y l' =>
    obtain ⟨x, hx, e⟩ := hl y (by simp)
    cases l with
    | nil => cases hx
    | cons z l =>
      have hz : reach s k p z.pr = false := h
      show reach s k p y.pr = false
      rw [← e]
      rcases List.mem_cons.1 hx with rfl | hx
      · exact hz
      · have := List.rel_of_pairwise_cons hs hx
        unfold reach bet at *
        rcases hsd with rfl | rfl <;> simp_all <;> omega
/-- the order that a command lets come can come -/
theorem cmg_V {B : Bk} {c : Cm} (h : B.Vl) (hw : c.wf) (h0 : B.why c = 0) (h2 : c.k ≠ 2) : (cmg c (B.tgt c) (B.at_ c).1).V (((B.goes c).num (nx (B.goes c).seq)).top (cmg c (B.tgt c) (B.at_ c).1).o.id) ∧ B.high < (cmg c (B.tgt c) (B.at_ c).1).o.id := by
  obtain ⟨z1, z2, z3, z4, z5⟩ := rfs_zero h0
  obtain ⟨s1, s2, s3, s4, s5, s6, s7, s8⟩ := chk_sized z2 h2 hw
  obtain ⟨f1, f2, f3, f4⟩ := cmg_facts (c := c) (tg := B.tgt c) (side := (B.at_ c).1)
  have hid := hw.1
  have hpk := hw.2.2
  have hk := chk_kinds (c := c) (by rw [z2]; decide)
  have hty := cmg_ty (c := c) (tg := B.tgt c) (side := (B.at_ c).1)
  have hkd := cmg_kd (c := c) (tg := B.tgt c) (side := (B.at_ c).1) (fun e => ⟨(s8 e).1, (s8 e).2.1⟩) (by omega) (fun e => z1 (by omega)) (fun o ho => by
    have := (h.rests o (tgt_mem ho).1).1; unfold Ord.rests Rests at this; exact this.2.1)
  have hside := cmg_side (c := c) (tg := B.tgt c) (side := (B.at_ c).1) z2 h2 (fun e => z1 (by omega)) (fun hn => by
    cases ht : B.tgt c with
    | none => exact absurd ht hn
    | some o => exact (tgt_mem ht).2.1)
  have hgv := goes_vl (c := c) h z1
  have hgc := goes_cap B c
  have z3' := z3 h2
  have hfr : ∀ i ∈ ids ((B.goes c).bs ++ (B.goes c).ss), i < c.id := fun i hi => by
    obtain ⟨o, ho, rfl⟩ := List.mem_map.1 hi
    have := (h.rests o (Bk.goes_mem ho)).1
    unfold Ord.rests Rests at this; omega
  generalize cmg c (B.tgt c) (B.at_ c).1 = t at *
  unfold U at hid hpk
  refine ⟨⟨hside, by omega, by omega, by rw [f1, f2]; exact s4, fun hk' => ?_, ⟨by omega, by rw [f3]; exact hid⟩, hty, by omega, hkd, fun i hi => by rw [f3]; exact hfr i hi, fun h5 => ?_⟩, by omega⟩
  · show ((B.goes c).bs.length : Int) + (B.goes c).ss.length < (B.goes c).cap
    rw [hgc.1]
    by_cases h1 : c.k = 1
    · have := z4 h1 hk'
      have hl := B.goes_len c
      omega
    · have := goes_len1 h1 (z1 h1)
      have := h.len
      omega
  · have hr := z5 h2 h5
    have hm : ∀ s : Int, ∀ y ∈ (B.goes c).side s, ∃ x ∈ B.side s, x.pr = y.pr := fun s y hy => by
      unfold Bk.goes at hy
      split at hy
      · refine ⟨y, ?_, rfl⟩
        unfold Bk.put Bk.num Bk.side at *
        by_cases e1 : (B.at_ c).1 = 1 <;> by_cases e2 : s = 1 <;> simp [e1, e2] at hy ⊢
        · exact List.mem_of_mem_eraseIdx hy
        · exact hy
        · exact hy
        · exact List.mem_of_mem_eraseIdx hy
      · exact ⟨y, hy, rfl⟩
    show headReach t.side t.kind t.o.pr ((B.goes c).side (3 - t.side)) = false
    rcases hside with e | e
    · rw [e] at hr ⊢
      exact head_sub hr (hm 2) h.s2 (.inl rfl)
    · rw [e] at hr ⊢
      exact head_sub hr (hm 1) h.s1 (.inr rfl)
theorem does_vl {B : Bk} {c : Cm} (h : B.Vl) (hw : c.wf) : (B.does c).1.Vl := by
  unfold Bk.does
  by_cases h0 : B.why c ≠ 0
  · rw [if_pos h0]; exact num_vl _ h
  rw [if_neg h0]
  have h0' : B.why c = 0 := Decidable.of_not_not h0
  obtain ⟨z1, _⟩ := rfs_zero h0'
  have hgv := goes_vl (c := c) h z1
  by_cases h2 : c.k ≠ 2
  · rw [if_pos h2]
    obtain ⟨hV, hlt⟩ := cmg_V h hw h0' h2
    have hgc := goes_cap B c
    exact comes_vl (top_vl (num_vl _ hgv) (by show (B.goes c).high ≤ _; rw [hgc.2.2]; omega)) hV (Int.le_refl _)
  · rw [if_neg h2]; exact hgv
end Go.Proofs.Ytmfobfamdaajmaa

/- The law RulesNumbers: its walk. -/
namespace Go.Proofs.Ytmfobfamdaajmaa
open Go.V
set_option linter.unusedVariables false
set_option linter.unusedSimpArgs false

def crows (l : List Cm) : List Value := l.flatMap Cm.cells
theorem crows_length (l : List Cm) : (crows l).length = l.length * 9 := flatMap_length _ 9 (fun _ => rfl) l
theorem crows_get (l : List Cm) (i j : Nat) (hi : i < l.length) (hj : j < 9) : (crows l)[i * 9 + j]? = (l[i].cells)[j]? := flatMap_get _ 9 (fun _ => rfl) l i j hi hj
theorem Rd.cm {w : World} {no : List Nat} {A : Option Addr} {l : List Cm} (h : Rd w no A (crows l)) (hn : 0 < l.length) :
    ∃ b o, A = some ⟨b, o, none⟩ ∧ ∀ (i : Nat) (hi : i < l.length) (own : List Nat) (hs : Hp), (∀ x ∈ own, x ∈ no) → At w own hs ⟨b, o + i * 9, none⟩ l[i].cells := by
  obtain ⟨b, o, e, hb, hc⟩ := h.base (by rw [crows_length]; omega)
  refine ⟨b, o, e, fun i hi own hs hsub => At.old (fun j v hv => ?_) (fun hx => hb (hsub _ hx))⟩
  have hj : j < 9 := (List.getElem?_eq_some_iff.1 hv).1
  rw [add_none, Nat.add_assoc]
  exact hc (i * 9 + j) v (by rw [crows_get l i j hi hj]; exact hv)
theorem drop_at {α : Type} {l : List α} {j : Nat} (hj : j < l.length) : l.drop j = l[j] :: l.drop (j + 1) := List.drop_eq_getElem_cons hj
structure N3 where
  j : Nat
  s : Int
  h : Int
structure BS where
  i : Nat
  B : Bk
  v1 : Value
  v2 : Value
  k1 : Hp
  k2 : Hp
abbrev BS.H (x : BS) (b : Nat) : Hp := Tb b (Bc x.B x.v1 x.v2) :: (x.k1 ++ x.k2)
def BS.I (x : BS) (n : Nat) : Prop := x.i ≤ n ∧ x.B.Inv ∧ Side x.v1 x.B.bs x.k1 ∧ Side x.v2 x.B.ss x.k2
set_option maxRecDepth 10000 in
theorem RulesNumbers_ok (w : World) (cc cm : Int) (A : Option Addr) (len cap : Nat) (l : List Cm) (hl : len = l.length) (hA : Rd w [] A (crows l)) (hb : len ≤ 4503599627370496) (hw : ∀ c ∈ l, c.wf) :
    Is Try.prog 4 [.agg ⟨[.int .i64 cc, .int .i64 cm]⟩, .slice A len cap] w (.bool true) := by
  refine Does.pure (Does.of (n := 82) Try.func4 rfl rfl rfl rfl ?_)
  refine .seq ((.region (.nw (.box rfl rfl) fun b2 => (.v (.assign rfl) (.nil ?_)))))
  refine .seq ((.region (.v (.loadA (vs := [.int .i64 cc, .int .i64 cm]) rfl .whole rfl) ?_)))
  refine .ef (.call0 rfl rfl fun w s => begun_ok w cc cm) ?_
  rintro _ _ ⟨_, hN, rfl⟩
  by_cases hc : Cfg cc cm
  case neg =>
    rw [if_neg hc] at hN
    obtain ⟨rfl, rfl⟩ := hN
    refine .v (.move rfl) (.v (.extract rfl rfl) (.v (.extract rfl rfl) (.v (.assign rfl) (.v (.assign rfl) (.nil ?_)))))
    refine .seq (.seq ((.region (.v (.move rfl) (.v (.eql_ptr_nil rfl rfl) (.v (.move rfl) (.or (b2 := false) 20 22 2 2 rfl rfl (fun g1 => absurd g1 (by simp)) (.nil ?_))))))))
    refine .cond rfl (fun _ => ?_) (fun h => absurd h (by simp))
    refine .seq ((.region (.v (.move rfl) (.v (.assign rfl) (.nil ?_)))))
    exact .ret ⟨[_], ⟨rfl, trivial⟩, rfl⟩
  rw [if_pos hc] at hN
  obtain ⟨b, rfl, rfl⟩ := hN
  refine .v (.move rfl) (.v (.extract rfl rfl) (.v (.extract rfl rfl) (.v (.assign rfl) (.v (.assign rfl) (.nil ?_)))))
  refine .seq (.seq ((.region (.v (.move rfl) (.v (.eql_ptr_nil rfl rfl) (.v (.move rfl) (.or 20 22 2 2 rfl rfl (fun g1 => .v (.move rfl) (.v (.not rfl) (.nil ⟨rfl, rfl, rfl, rfl⟩))) (.nil ?_))))))))
  refine .cond rfl (fun h => absurd h (by simp)) (fun _ => .skip ?_)
  refine .seq ((.region (.v (.assign rfl) (.v (.assign rfl) (.nil ?_)))))
  refine .seq (.seq ((.region (.v (.assign rfl) (.nil ?_)))))
  refine .block (.loop (X := BS) (fun x => [(1, .slice A len cap), (5, .pointer (some ⟨b, 0, none⟩)), (7, .int .u64 x.B.seq), (8, .int .u64 x.B.high), (9, .int .i64 x.i)]) (fun x => x.H b) (fun x => x.I len) (fun x => len - x.i)
    ⟨0, newB cc cm, .slice none 0 0, .slice none 0 0, [], []⟩ ⟨by simp, newB_inv hc, OwnS.nil _ _, OwnS.nil _ _⟩ (.cons rfl (.cons rfl (.cons rfl (.cons rfl (.cons rfl (.nil _)))))) (fun _ s => s.take) ?_)
  rintro ⟨i, B, v1, v2, k1, k2⟩ ⟨hi, hI, h1, h2⟩
  dsimp only at hi hI h1 h2 ⊢
  refine .seq (.seq ((.region (.v (.move rfl) (.v (.move rfl) (.v (.len rfl) (.v (.lss rfl rfl) (.nil ?_))))))))
  refine .cond_dec rfl (fun g2 => .skip ?_) (fun g2 => .exit ?_)
  · have hil : i < l.length := by omega
    obtain ⟨ba, oa, rfl, hat⟩ := Rd.cm hA (by omega)
    have hcw := hw _ (List.getElem_mem hil)
    have hat := hat i hil
    generalize l[i] = c at hat hcw
    obtain ⟨hnum, hhi⟩ := does_num hI hcw
    have hI' := does_inv hI hcw
    have hel := does_len hI hcw
    refine .seq (.block (.seq ((.region (.v (.move rfl) (.v (.move rfl) (.v (.move rfl) (.v (.indexAddr rfl rfl (by omega) (by omega)) (.v (.loadA (vs := c.cells) rfl (hat _ _ (by simp [bl])) rfl) ?_)))))))))
    refine .ef (.callT (Tb b (Bc B v1 v2) :: (k1 ++ k2)) rfl rfl (fun w s => Does.call_Do w b B hI.ok c hcw.2.1 hcw.2.2 v1 v2 k1 k2 h1 h2)) ?_
    generalize hB : B.does c = D at hnum hhi hI' hel
    obtain ⟨B', evs⟩ := D
    rintro _ _ ⟨_, ⟨A', c', v1', v2', k1', k2', ke, rfl, rfl, h1', h2', hE⟩, rfl⟩
    dsimp only at hnum hhi hI' hel h1' h2' hE ⊢
    refine .v (.assign rfl) (.nil ?_)
    refine .keep ((Tb b (Bc B' v1' v2') :: (k1' ++ k2')) ++ ke) ?_
    refine .seq (.seq ((.region (.v (.assign rfl) (.nil ?_)))))
    refine .block (.loop (X := N3) (fun x => [(1, .slice (some ⟨ba, oa, none⟩) len cap), (5, .pointer (some ⟨b, 0, none⟩)), (7, .int .u64 x.s), (8, .int .u64 x.h), (9, .int .i64 i), (10, .slice A' evs.length c'), (11, .int .i64 x.j)]) (fun _ => (Tb b (Bc B' v1' v2') :: (k1' ++ k2')) ++ ke)
      (fun x => x.j ≤ evs.length ∧ Num x.s (evs.drop x.j) B'.seq ∧ Hi x.h (evs.drop x.j) B'.high) (fun x => evs.length - x.j) ⟨0, B.seq, B.high⟩ ⟨by simp, hnum, hhi⟩ (.cons rfl (.cons rfl (.cons rfl (.cons rfl (.cons rfl (.cons rfl (.cons rfl (.nil _)))))))) (fun _ s => s) ?_)
    rintro ⟨j, sq, hg⟩ ⟨hj, hN, hH⟩
    dsimp only at hj hN hH ⊢
    refine .seq (.seq ((.region (.v (.move rfl) (.v (.move rfl) (.v (.len rfl) (.v (.lss rfl rfl) (.nil ?_))))))))
    refine .cond_dec rfl (fun g3 => .skip ?_) (fun g3 => .exit ?_)
    · have hjl : j < evs.length := by omega
      obtain ⟨be, oe, le, rfl, -, rfl, -, -, -⟩ := hE.some_ (by omega)
      have hld : ∀ (k : Nat) (v : Value) (own : List Nat) (hs : Hp), [(be, Ch.cells le 50)] ⊆ hs → k < 13 → (evs[j].cells)[k]? = some v → At w own hs ⟨be, oe + j * 13 + k, none⟩ [v] := fun k v own hs hh hk hv => hE.ld hh hjl hk hv
      rw [drop_at hjl] at hN hH
      generalize evs[j] = e at hN hH hld
      obtain ⟨hN1, hN2⟩ := hN
      refine .mid (X := Int) (fun x => [(1, .slice (some ⟨ba, oa, none⟩) len cap), (5, .pointer (some ⟨b, 0, none⟩)), (7, .int .u64 (nx sq)), (8, .int .u64 x), (9, .int .i64 i), (10, .slice (some ⟨be, oe, none⟩) evs.length c'), (11, .int .i64 j)]) (fun _ => (Tb b (Bc B' v1' v2') :: (k1' ++ k2')) ++ [(be, Ch.cells le 50)])
        (fun x => Hi x (evs.drop (j + 1)) B'.high) (.block (.seq ((.region (.v (.move rfl) (.v (.add rfl rfl) (.v (.assign rfl) (.nil ?_)))))))) ?_
      · refine .seq (.seq ((.region (.v (.move rfl) (.v (.move rfl) (.v (.indexAddr rfl rfl (by omega) (by omega)) (.v (.fieldAddr rfl) (.v (.load (v := .int .u64 e.seq) rfl (hld 0 _ _ _ (fun p hp => by simp at hp ⊢; simp [hp]) (by omega) rfl)) (.v (.move rfl) (.v (.nei rfl rfl) (.nil ?_)))))))))))
        refine .cond_dec rfl (fun g4 => absurd hN1 g4) (fun _ => .skip ?_)
        refine .seq ((.region (.v (.move rfl) (.v (.move rfl) (.v (.indexAddr rfl rfl (by omega) (by omega)) (.v (.fieldAddr rfl) (.v (.load (v := .int .i64 e.kind) rfl (hld 1 _ _ _ (fun p hp => by simp at hp ⊢; simp [hp]) (by omega) rfl)) (.v (.eqi rfl rfl) (.nil ?_)))))))))
        refine .cond_dec rfl (fun g5 => ?_) (fun g5 => .skip ?_)
        · unfold Hi at hH
          rw [if_pos g5] at hH
          refine .seq (.seq ((.region (.v (.move rfl) (.v (.move rfl) (.v (.indexAddr rfl rfl (by omega) (by omega)) (.v (.fieldAddr rfl) (.v (.load (v := .int .u64 e.id) rfl (hld 2 _ _ _ (fun p hp => by simp at hp ⊢; simp [hp]) (by omega) rfl)) (.v (.move rfl) (.v (.leq rfl rfl) (.nil ?_)))))))))))
          refine .cond_dec rfl (fun g6 => absurd hH.1 (by omega)) (fun _ => .skip ?_)
          refine .region (.v (.move rfl) (.v (.move rfl) (.v (.indexAddr rfl rfl (by omega) (by omega)) (.v (.fieldAddr rfl) (.v (.load (v := .int .u64 e.id) rfl (hld 2 _ _ _ (fun p hp => by simp at hp ⊢; simp [hp]) (by omega) rfl)) (.v (.assign rfl) (.nil ?_)))))))
          exact ⟨e.id, hH.2, .cons rfl (.cons rfl (.cons rfl (.cons rfl (.cons rfl (.cons rfl (.cons rfl (.nil _))))))), fun _ s => s⟩
        · unfold Hi at hH
          rw [if_neg g5] at hH
          exact ⟨hg, hH, .cons rfl (.cons rfl (.cons rfl (.cons rfl (.cons rfl (.cons rfl (.cons rfl (.nil _))))))), fun _ s => s⟩
      · intro x hx
        refine .region (.v (.move rfl) (.v (.addi rfl rfl (by omega)) (.v (.assign rfl) (.nil ?_))))
        exact ⟨⟨j + 1, nx sq, x⟩, ⟨by dsimp only; omega, hN2, hx⟩, by dsimp only; omega, .cons rfl (.cons rfl (.cons rfl (.cons rfl (.cons rfl (.cons rfl (.cons rfl (.nil _))))))), fun _ s => s⟩
    · have hd : evs.drop j = [] := List.drop_of_length_le (by omega)
      rw [hd] at hN hH
      have e1 : B'.seq = sq := hN
      have e2 : B'.high = hg := hH
      subst e1; subst e2
      obtain ⟨A1, c1, rfl⟩ := OwnS.sl h1'
      obtain ⟨A2, c2, rfl⟩ := OwnS.sl h2'
      have hlen := hI'.len
      have hcap := hI'.hi
      refine .seq ((.region (.v (.move rfl) ?_)))
      refine .ef (.call0 rfl rfl fun w s => Book_ok w b B'.cap B'.meet B'.high B'.seq A1 A2 c1 c2 B'.bs B'.ss (Rd.chunk s (T := 67) (l := Bc B' (.slice A1 B'.bs.length c1) (.slice A2 B'.ss.length c2)) (by simp) (fun j v hv => by rw [Nat.zero_add]; exact hv)) (OwnS.rd h1' s (no := []) (fun p hp => by simp [hp]) (by simp)) (OwnS.rd h2' s (no := []) (fun p hp => by simp [hp]) (by simp)) (by omega) (by omega)) ?_
      rintro _ _ ⟨_, ⟨E1, E2, d1, d2, q1, q2, rfl, rfl, oe1, oe2⟩, rfl⟩
      refine .nw .alloc fun b12 => (.st (.sw rfl rfl) (.nil ?_))
      refine .seq ((.region (.v (.fieldAddr rfl) (.v (.load (v := .int .u64 B'.seq) rfl (.one rfl)) (.v (.move rfl) (.v (.nei rfl rfl) (.v (.move rfl) (.or 76 80 4 4 rfl rfl (fun g2 => .v (.fieldAddr rfl) (.v (.load (v := .int .u64 B'.high) rfl (.one rfl)) (.v (.move rfl) (.v (.nei rfl rfl) (.nil ⟨rfl, rfl, rfl, rfl⟩))))) (.nil ?_)))))))))
      refine .cond rfl (fun h => absurd h (by simp)) (fun _ => .skip ?_)
      refine .region (.v (.move rfl) (.v (.addi rfl rfl (by omega)) (.v (.assign rfl) (.nil ?_))))
      exact ⟨⟨i + 1, B', _, _, k1', k2'⟩, ⟨by dsimp only; omega, hI', h1', h2'⟩, by dsimp only; omega, .cons rfl (.cons rfl (.cons rfl (.cons rfl (.cons rfl (.nil _))))), fun _ s => Sat.take (pre := Tb b (Bc B' (.slice A1 B'.bs.length c1) (.slice A2 B'.ss.length c2)) :: (k1' ++ k2')) s⟩
  · refine .seq ((.region (.v (.assign rfl) (.nil ?_))))
    exact .ret ⟨[_], ⟨rfl, trivial⟩, rfl⟩
end Go.Proofs.Ytmfobfamdaajmaa

/- Commands and books as they come in. -/
namespace Go.Proofs.Ytmfobfamdaajmaa
open Go.V Go.ChangeShapes Go.WideShapes Go.ChangeAt
set_option linter.unusedVariables false
set_option linter.unusedSimpArgs false

def I64 (x : Int) : Prop := -9223372036854775808 ≤ x ∧ x ≤ 9223372036854775807
def U32 (x : Int) : Prop := 0 ≤ x ∧ x ≤ 4294967295
theorem wf_i64 {n : Int} (h : (Lit.int .i64 n).wf = true) : I64 n := by
  simp [Lit.wf, IntKind.min, IntKind.max, IntKind.bits, IntKind.signed] at h; unfold I64; omega
theorem wf_u64 {n : Int} (h : (Lit.int .u64 n).wf = true) : U n := by
  simp [Lit.wf, IntKind.min, IntKind.max, IntKind.bits, IntKind.signed] at h; unfold U; omega
theorem wf_u32 {n : Int} (h : (Lit.int .u32 n).wf = true) : U32 n := by
  simp [Lit.wf, IntKind.min, IntKind.max, IntKind.bits, IntKind.signed] at h; unfold U32; omega
/-- an order's fields are in their kinds -/
def Ord.ok (o : Ord) : Prop := U o.id ∧ U32 o.mb ∧ I64 o.ty ∧ I64 o.pr ∧ U o.v ∧ U o.hd ∧ U o.pk
theorem Ord.ok.wf {o : Ord} (h : o.ok) : o.wf := ⟨h.1, h.2.2.2.2.1, h.2.2.2.2.2.1, h.2.2.2.2.2.2⟩
theorem okw_ord {cs : List Value} (h : okw OL cs) : ∃ o : Ord, cs = o.cells ∧ o.ok := by
  match cs, h with
  | [.int _ a, .int _ b, .int _ c, .int _ d, .int _ e, .int _ f, .int _ g], ⟨⟨h1, w1⟩, ⟨h2, w2⟩, ⟨h3, w3⟩, ⟨h4, w4⟩, ⟨h5, w5⟩, ⟨h6, w6⟩, ⟨h7, w7⟩, _⟩ =>
    subst h1; subst h2; subst h3; subst h4; subst h5; subst h6; subst h7
    exact ⟨⟨a, b, c, d, e, f, g⟩, rfl, wf_u64 w1, wf_u32 w2, wf_i64 w3, wf_i64 w4, wf_u64 w5, wf_u64 w6, wf_u64 w7⟩
abbrev CL : List Lf := [.i .i64, .i .u64, .i .u64, .i .u32, .i .i64, .i .i64, .i .i64, .i .u64, .i .u64]
def Cmd (k id tg mb sd ty pr q pk : Int) : Prop := I64 k ∧ U id ∧ U tg ∧ U32 mb ∧ I64 sd ∧ I64 ty ∧ I64 pr ∧ U q ∧ U pk
theorem okw_cmd {cs : List Value} (h : okw CL cs) : ∃ k id tg mb sd ty pr q pk, cs = ccells k id tg mb sd ty pr q pk ∧ Cmd k id tg mb sd ty pr q pk := by
  match cs, h with
  | [.int _ a, .int _ b, .int _ c, .int _ d, .int _ e, .int _ f, .int _ g, .int _ i, .int _ j], ⟨⟨h1, w1⟩, ⟨h2, w2⟩, ⟨h3, w3⟩, ⟨h4, w4⟩, ⟨h5, w5⟩, ⟨h6, w6⟩, ⟨h7, w7⟩, ⟨h8, w8⟩, ⟨h9, w9⟩, _⟩ =>
    subst h1; subst h2; subst h3; subst h4; subst h5; subst h6; subst h7; subst h8; subst h9
    exact ⟨a, b, c, d, e, f, g, i, j, rfl, wf_i64 w1, wf_u64 w2, wf_u64 w3, wf_u32 w4, wf_i64 w5, wf_i64 w6, wf_i64 w7, wf_u64 w8, wf_u64 w9⟩
/-- a side, as it comes in -/
def Len {H : Type} (d : DataW H) (n : Nat) : Prop := d = .nil ∧ n = 0 ∨ ∃ es sp, d = .slice es sp ∧ es.length = n
section
variable {H : Type} {enc : TypeId × Value → H} {w : World} {base : Nat} {spare : Nat → Bool} {held : Bool}
theorem TC.side {cs : List Value} {d : DataW H} (h : TC enc Try.prog w base spare held 28 cs d) :
    ∃ A c, ∃ l : List Ord, cs = [.slice A l.length c] ∧ Rd w [] A (rows l) ∧ (∀ o ∈ l, o.ok) ∧ Len d l.length := by
  obtain ⟨A, c, rs, h1, h2, h3, h4⟩ := h.recs (e := 53) (ls := OL) (by kernel_rfl) (by kernel_rfl) (by kernel_rfl) (by decide)
  obtain ⟨l, rfl, hl⟩ := map_of (f := Ord.cells) (Q := Ord.ok) rs fun r hr => okw_ord (h2 r hr)
  refine ⟨A, c, l, by rw [h1, List.length_map], by rw [rows, List.flatMap_def]; exact h3, hl, ?_⟩
  rcases h4 with ⟨e1, e2⟩ | ⟨ds, sp, e1, e2⟩
  · exact .inl ⟨e1, by simpa using e2⟩
  · exact .inr ⟨ds, sp, e1, by simpa using e2⟩
set_option maxRecDepth 20000 in
theorem read_book {cs : List Value} {d : DataW H} (h : TC enc Try.prog w base spare held 30 cs d) :
    ∃ cap meet A1 c1 A2 c2 high seq, ∃ bs ss : List Ord, cs = bcells cap meet (.slice A1 bs.length c1) (.slice A2 ss.length c2) high seq ∧ I64 cap ∧ I64 meet ∧ U high ∧ U seq ∧ Rd w [] A1 (rows bs) ∧ Rd w [] A2 (rows ss) ∧ (∀ o ∈ bs ++ ss, o.ok) ∧
      ∃ dc d1 d2 dh dq, d = .agg [dc, d1, d2, dh, dq] ∧ Len d1 bs.length ∧ Len d2 ss.length := by
  obtain ⟨ds, rfl, hn, hl, hf⟩ := h.struct Try.underlying30
  match ds, hn with
  | [dc, d1, d2, dh, dq], _ =>
  match cs, hl with
  | [x0, x1, x2, x3, x4, x5], _ =>
  have f0 := (hf 0 _ dc rfl rfl).plain (ls := [.i .i64, .i .i64]) (by kernel_rfl) (by kernel_rfl)
  obtain ⟨A1, c1, bs, e1, r1, o1, n1⟩ := TC.side (hf 1 _ d1 rfl rfl)
  obtain ⟨A2, c2, ss, e2, r2, o2, n2⟩ := TC.side (hf 2 _ d2 rfl rfl)
  obtain ⟨high, e3, w3⟩ := (hf 3 _ dh rfl rfl).int (k := .u64) (by kernel_rfl)
  obtain ⟨seq, e4, w4⟩ := (hf 4 _ dq rfl rfl).int (k := .u64) (by kernel_rfl)
  have z2 : Try.prog.cellsOf 27 = 2 := by kernel_rfl
  have z1 : Try.prog.cellsOf 28 = 1 := by kernel_rfl
  have zu : Try.prog.cellsOf 22 = 1 := by kernel_rfl
  have g0 : okw [.i .i64, .i .i64] [x0, x1] := by simpa [z2] using f0
  have g1 : x2 = .slice A1 bs.length c1 := by simpa [z1] using e1
  have g2 : x3 = .slice A2 ss.length c2 := by simpa [z1] using e2
  have g3 : x4 = .int .u64 high := by simpa [zu] using e3
  have g4 : x5 = .int .u64 seq := by simpa [zu] using e4
  match x0, x1, g0 with
  | .int _ cap, .int _ meet, ⟨⟨p1, w1⟩, ⟨p2, w2⟩, _⟩ =>
    subst p1; subst p2; subst g1; subst g2; subst g3; subst g4
    exact ⟨cap, meet, A1, c1, A2, c2, high, seq, bs, ss, rfl, wf_i64 w1, wf_i64 w2, wf_u64 w3, wf_u64 w4, r1, r2, fun o ho => by rcases List.mem_append.1 ho with ho | ho; exact o1 o ho; exact o2 o ho, dc, d1, d2, dh, dq, rfl, n1, n2⟩
end
end Go.Proofs.Ytmfobfamdaajmaa

/- Lists of commands, as they come in. -/
namespace Go.Proofs.Ytmfobfamdaajmaa
open Go.V Go.ChangeShapes Go.WideShapes Go.ChangeAt
set_option linter.unusedVariables false

def Cm.ok (c : Cm) : Prop := Cmd c.k c.id c.tg c.mb c.sd c.ty c.pr c.q c.pk
theorem Cm.ok.wf {c : Cm} (h : c.ok) : c.wf := ⟨h.2.1, h.2.2.2.2.2.2.2.1, h.2.2.2.2.2.2.2.2⟩
theorem okw_cm {cs : List Value} (h : okw CL cs) : ∃ c : Cm, cs = c.cells ∧ c.ok := by
  obtain ⟨k, id, tg, mb, sd, ty, pr, q, pk, rfl, hc⟩ := okw_cmd h
  exact ⟨⟨k, id, tg, mb, sd, ty, pr, q, pk⟩, rfl, hc⟩
theorem okw_cfg {cs : List Value} (h : okw [.i .i64, .i .i64] cs) : ∃ a b, cs = [.int .i64 a, .int .i64 b] ∧ I64 a ∧ I64 b := by
  match cs, h with
  | [.int _ a, .int _ b], ⟨⟨h1, w1⟩, ⟨h2, w2⟩, _⟩ => subst h1; subst h2; exact ⟨a, b, rfl, wf_i64 w1, wf_i64 w2⟩
section
variable {H : Type} {enc : TypeId × Value → H} {w : World} {base : Nat} {spare : Nat → Bool} {held : Bool}
theorem TC.cmds {cs : List Value} {d : DataW H} (h : TC enc Try.prog w base spare held 44 cs d) :
    ∃ A c, ∃ l : List Cm, cs = [.slice A l.length c] ∧ Rd w [] A (crows l) ∧ (∀ o ∈ l, o.ok) ∧ Len d l.length := by
  obtain ⟨A, c, rs, h1, h2, h3, h4⟩ := h.recs (e := 25) (ls := CL) (by kernel_rfl) (by kernel_rfl) (by kernel_rfl) (by decide)
  obtain ⟨l, rfl, hl⟩ := map_of (f := Cm.cells) (Q := Cm.ok) rs fun r hr => okw_cm (h2 r hr)
  refine ⟨A, c, l, by rw [h1, List.length_map], by rw [crows, List.flatMap_def]; exact h3, hl, ?_⟩
  rcases h4 with ⟨e1, e2⟩ | ⟨ds, sp, e1, e2⟩
  · exact .inl ⟨e1, by simpa using e2⟩
  · exact .inr ⟨ds, sp, e1, by simpa using e2⟩
end
end Go.Proofs.Ytmfobfamdaajmaa
