/- MG: several texts in one. -/
import Derived.Test.YtmfobfamdaajmaaMF
/- Find, Load, events. -/
namespace Go.Proofs.Ytmfobfamdaajmaa
open Go.V
set_option linter.unusedVariables false
set_option linter.unusedSimpArgs false

abbrev EL : List Lf := [.i .u64, .i .i64, .i .u64, .i .u64, .i .u64, .i .u32, .i .i64, .i .i64, .i .i64, .i .u64, .i .u64, .i .i64, .i .i64]
theorem Ev.oks (o : Ev) : V.oks EL o.cells := ⟨rfl, rfl, rfl, rfl, rfl, rfl, rfl, rfl, rfl, rfl, rfl, rfl, rfl, trivial⟩
set_option maxRecDepth 10000 in
theorem events_ok (w : World) (A B : Option Addr) (len ca cb : Nat) (l : List Ev) (hA : Rd w [] A (erows l)) (hB : Rd w [] B (erows l)) (hl : len = l.length) (hb : len ≤ 1353245080300) :
    Is Try.prog 27 [.slice A len ca, .slice B len cb] w (.bool true) := by
  refine Does.pure (Does.of (n := 26) Try.func27 rfl rfl rfl rfl ?_)
  refine .seq ((.region (.v (.assign rfl) (.nil ?_))))
  refine .seq (.seq ((.region (.v (.move rfl) (.v (.len rfl) (.v (.move rfl) (.v (.len rfl) (.v (.nei rfl rfl) (.nil ?_)))))))))
  refine .cond_dec rfl (fun g => absurd rfl g) (fun g => .skip ?_)
  refine .seq (.seq ((.region (.v (.assign rfl) (.nil ?_)))))
  refine .block (.loop (X := Nat) (fun i => [(0, .slice A len ca), (1, .slice B len cb), (5, .int .i64 i)]) (fun _ => []) (fun i => i ≤ len) (fun i => len - i) 0 (by omega) (.cons rfl (.cons rfl (.cons rfl (.nil _)))) (fun _ s => s) ?_)
  intro i hi
  refine .seq (.seq ((.region (.v (.move rfl) (.v (.move rfl) (.v (.len rfl) (.v (.lss rfl rfl) (.nil ?_))))))))
  refine .cond_dec rfl (fun g2 => .skip ?_) (fun g2 => .exit ?_)
  · have hil : i < l.length := by omega
    obtain ⟨b, o, rfl, -, hc⟩ := Rd.ev hA (by omega)
    obtain ⟨b', o', rfl, -, hc'⟩ := Rd.ev hB (by omega)
    refine .seq (.block (.seq ((.drawS (by kernel_rfl) (by kernel_rfl) (.v (.move rfl) (.v (.move rfl) (.v (.indexAddr rfl rfl (by omega) (by omega)) (.v (.loadA (vs := l[i].cells) rfl (.old (fun j v hv => ?_) (by simp [bl])) rfl) (.v (.move rfl) (.v (.move rfl) (.v (.indexAddr rfl rfl (by omega) (by omega)) (.v (.loadA (vs := l[i].cells) rfl (.old (fun j v hv => ?_) (by simp [bl])) rfl) (.v (.neA rfl rfl l[i].oks l[i].oks) (.nil ?_))))))))))))))
    · rw [add_none, Int.toNat_natCast]; exact hc i hil j v (List.getElem?_eq_some_iff.1 hv).1 hv
    · rw [add_none, Int.toNat_natCast]; exact hc' i hil j v (List.getElem?_eq_some_iff.1 hv).1 hv
    refine .cond rfl (fun g3 => absurd g3 (by rw [(cellsEq_iff l[i].oks l[i].oks).2 rfl]; simp)) (fun _ => .skip ?_)
    refine .region (.v (.move rfl) (.v (.addi rfl rfl (by omega)) (.v (.assign rfl) (.nil ?_))))
    exact ⟨i + 1, by omega, by omega, .cons rfl (.cons rfl (.cons rfl (.nil _))), fun _ s => s⟩
  · refine .seq ((.region (.v (.assign rfl) (.nil ?_))))
    exact .ret ⟨[_], ⟨rfl, trivial⟩, rfl⟩
def ord0 : Ord := ⟨0, 0, 0, 0, 0, 0, 0⟩
/-- an order of a book, and its side -/
def fnd (id : Int) (bs ss : List Ord) : Option (Int × Ord) :=
  if 0 ≤ idx id bs then bs[(idx id bs).toNat]?.map (fun o => (1, o)) else if 0 ≤ idx id ss then ss[(idx id ss).toNat]?.map (fun o => (2, o)) else none
def fndV : Option (Int × Ord) → Value
  | none => .tuple ⟨[.agg ⟨ord0.cells⟩, .int .i64 0, .bool false]⟩
  | some (s, o) => .tuple ⟨[.agg ⟨o.cells⟩, .int .i64 s, .bool true]⟩
set_option maxRecDepth 10000 in
theorem Find_ok (w : World) (b : Nat) (cap meet high seq id : Int) (A1 A2 : Option Addr) (c1 c2 : Nat) (bs ss : List Ord) (hb : Rd w [] (some ⟨b, 0, none⟩) (bcells cap meet (.slice A1 bs.length c1) (.slice A2 ss.length c2) high seq))
    (h1 : Rd w [] A1 (rows bs)) (h2 : Rd w [] A2 (rows ss)) (hb1 : bs.length ≤ 2513169434843) (hb2 : ss.length ≤ 2513169434843) :
    Is Try.prog 25 [.pointer (some ⟨b, 0, none⟩), .int .u64 id] w (fndV (fnd id bs ss)) := by
  refine Does.pure (Does.of (n := 29) Try.func25 rfl rfl rfl rfl ?_)
  refine .seq ((.region (.nw .alloc fun b4 => (.v (.assign rfl) (.v (.assign rfl) (.nil ?_))))))
  have hp : ∀ (w' : World) (hs : Hp), Sat w [] hs w' → Is Try.prog 41 [.pointer (some ⟨b, 0, none⟩), .int .u64 id] w' (plcV (plc id bs ss)) := fun w' hs s => place_ok w' b cap meet high seq id A1 A2 c1 c2 bs ss (hb.keep0 s) (h1.keep0 s) (h2.keep0 s) hb1 hb2
  rcases idx_spec id bs with ⟨e1, n1⟩ | ⟨i, hi, e1, hid, hb'⟩
  · rcases idx_spec id ss with ⟨e2, n2⟩ | ⟨i, hi, e2, hid, hb'⟩
    · have ep : plc id bs ss = (0, 0, false) := by unfold plc; rw [e1, e2]; rfl
      have ef : fnd id bs ss = none := by unfold fnd; rw [e1, e2]; rfl
      rw [ep] at hp
      rw [ef]
      refine .seq ((.region (.v (.move rfl) (.v (.move rfl) (.pc (v := plcV (0, 0, false)) rfl rfl (fun w s => hp w _ s) ?_)))))
      refine .v (.move rfl) (.v (.extract rfl rfl) (.v (.extract rfl rfl) (.v (.extract rfl rfl) (.v (.assign rfl) (.v (.assign rfl) (.v (.assign rfl) (.nil ?_)))))))
      refine .seq (.seq ((.region (.v (.move rfl) (.v (.not rfl) (.nil ?_))))))
      refine .cond rfl (fun _ => ?_) (fun h => absurd h (by simp))
      refine .seq ((.region (.v (.build (out := ord0.cells) rfl rfl) (.st (.sw rfl rfl) (.v (.assign rfl) (.v (.assign rfl) (.nil ?_)))))))
      exact .ret ⟨[_, _, _], ⟨⟨_, rfl, .inr ⟨7, _, inferInstance, rfl, rfl, .whole⟩⟩, rfl, rfl, trivial⟩, rfl⟩
    · have ep : plc id bs ss = (2, (i : Int), true) := by unfold plc; rw [e1, e2, if_neg (by omega), if_pos (by omega)]
      have ef : fnd id bs ss = some (2, ss[i]) := by unfold fnd; rw [e1, e2, if_neg (by omega), if_pos (by omega), Int.toNat_natCast, List.getElem?_eq_getElem hi]; rfl
      rw [ep] at hp
      rw [ef]
      obtain ⟨b', o', rfl, -, hc⟩ := Rd.ord h2 (by omega)
      have hc := hc i hi
      generalize ss[i] = o at *
      refine .seq ((.region (.v (.move rfl) (.v (.move rfl) (.pc (v := .tuple ⟨[.int .i64 2, .int .i64 i, .bool true]⟩) rfl rfl (fun w s => hp w _ s) ?_)))))
      refine .v (.move rfl) (.v (.extract rfl rfl) (.v (.extract rfl rfl) (.v (.extract rfl rfl) (.v (.assign rfl) (.v (.assign rfl) (.v (.assign rfl) (.nil ?_)))))))
      refine .seq (.seq ((.region (.v (.move rfl) (.v (.not rfl) (.nil ?_))))))
      refine .cond rfl (fun h => absurd h (by simp)) (fun _ => .skip ?_)
      refine .seq ((.region (.v (.move rfl) (.v (.move rfl) (.pc (v := .pointer (some ⟨b, 3, none⟩)) rfl rfl (fun w s => side_ok w b 2) ?_)))))
      refine .v (.nilCheck rfl) (.v (.load (v := .slice (some ⟨b', o', none⟩) ss.length c2) rfl (hb.cell (i := 3) rfl)) (.v (.move rfl) (.v (.indexAddr rfl rfl (by omega) (by omega)) (.v (.loadA (vs := o.cells) rfl (.old (fun j v hv => by rw [add_none, Int.toNat_natCast]; exact hc j v (List.getElem?_eq_some_iff.1 hv).1 hv) (by simp [bl])) rfl) (.v (.move rfl) (.st (.sw rfl rfl) (.v (.assign rfl) (.v (.assign rfl) (.nil ?_)))))))))
      exact .ret ⟨[_, _, _], ⟨⟨_, rfl, .inr ⟨7, _, inferInstance, rfl, rfl, .whole⟩⟩, rfl, rfl, trivial⟩, rfl⟩
  · have ep : plc id bs ss = (1, (i : Int), true) := by unfold plc; rw [e1, if_pos (by omega)]
    have ef : fnd id bs ss = some (1, bs[i]) := by unfold fnd; rw [e1, if_pos (by omega), Int.toNat_natCast, List.getElem?_eq_getElem hi]; rfl
    rw [ep] at hp
    rw [ef]
    obtain ⟨b', o', rfl, -, hc⟩ := Rd.ord h1 (by omega)
    have hc := hc i hi
    generalize bs[i] = o at *
    refine .seq ((.region (.v (.move rfl) (.v (.move rfl) (.pc (v := .tuple ⟨[.int .i64 1, .int .i64 i, .bool true]⟩) rfl rfl (fun w s => hp w _ s) ?_)))))
    refine .v (.move rfl) (.v (.extract rfl rfl) (.v (.extract rfl rfl) (.v (.extract rfl rfl) (.v (.assign rfl) (.v (.assign rfl) (.v (.assign rfl) (.nil ?_)))))))
    refine .seq (.seq ((.region (.v (.move rfl) (.v (.not rfl) (.nil ?_))))))
    refine .cond rfl (fun h => absurd h (by simp)) (fun _ => .skip ?_)
    refine .seq ((.region (.v (.move rfl) (.v (.move rfl) (.pc (v := .pointer (some ⟨b, 2, none⟩)) rfl rfl (fun w s => side_ok w b 1) ?_)))))
    refine .v (.nilCheck rfl) (.v (.load (v := .slice (some ⟨b', o', none⟩) bs.length c1) rfl (hb.cell (i := 2) rfl)) (.v (.move rfl) (.v (.indexAddr rfl rfl (by omega) (by omega)) (.v (.loadA (vs := o.cells) rfl (.old (fun j v hv => by rw [add_none, Int.toNat_natCast]; exact hc j v (List.getElem?_eq_some_iff.1 hv).1 hv) (by simp [bl])) rfl) (.v (.move rfl) (.st (.sw rfl rfl) (.v (.assign rfl) (.v (.assign rfl) (.nil ?_)))))))))
    exact .ret ⟨[_, _, _], ⟨⟨_, rfl, .inr ⟨7, _, inferInstance, rfl, rfl, .whole⟩⟩, rfl, rfl, trivial⟩, rfl⟩
set_option maxRecDepth 10000 in
theorem Load_ok (w : World) (b : Nat) (u0 u1 u2 u3 u4 u5 : Value) (cap meet high seq : Int) (A1 A2 : Option Addr) (c1 c2 : Nat) (bs ss : List Ord)
    (h1 : Rd w [b] A1 (rows bs)) (h2 : Rd w [b] A2 (rows ss)) (hw : ∀ o ∈ bs ++ ss, o.wf) (hb1 : bs.length ≤ 2513169434843) (hb2 : ss.length ≤ 2513169434843) (hv : vld cap meet high bs ss = 0) :
    Does Try.prog 26 [.pointer (some ⟨b, 0, none⟩), .agg ⟨bcells cap meet (.slice A1 bs.length c1) (.slice A2 ss.length c2) high seq⟩] [Tb b [u0, u1, u2, u3, u4, u5]] w
      (fun v hs => v = .int .i64 0 ∧ ∃ v1 v2 k1 k2, hs = Tb b (Bc ⟨cap, meet, bs, ss, high, seq⟩ v1 v2) :: (k1 ++ k2) ∧ Side v1 bs k1 ∧ Side v2 ss k2) := by
  refine Does.less (Does.of (n := 25) Try.func26 rfl rfl rfl rfl ?_)
  refine .seq ((.region (.nw (.box rfl rfl) fun b3 => (.v (.assign rfl) (.nil ?_)))))
  refine .seq ((.region (.v (.loadA (vs := bcells cap meet (.slice A1 bs.length c1) (.slice A2 ss.length c2) high seq) rfl .whole rfl) (.pc rfl rfl (fun w s => Valid_ok w cap meet high seq A1 A2 c1 c2 bs ss (h1.keep0 s) (h2.keep0 s) hw hb1 hb2) ?_))))
  rw [hv]
  refine .v (.assign rfl) (.nil ?_)
  refine .seq (.seq ((.region (.v (.move rfl) (.v (.nei rfl rfl) (.nil ?_))))))
  refine .cond_dec rfl (fun h => absurd rfl h) (fun _ => .skip ?_)
  refine .seq ((.region (.v (.move rfl) (.v (.loadA (vs := bcells cap meet (.slice A1 bs.length c1) (.slice A2 ss.length c2) high seq) rfl .whole rfl) ?_))))
  refine .ef (.call0 rfl rfl fun w s => copied_ok w cap meet high seq A1 A2 c1 c2 bs ss (h1.keep0 s) (h2.keep0 s) hb1 hb2) ?_
  rintro _ _ ⟨_, ⟨E1, E2, d1, d2, q1, q2, rfl, rfl, oe1, oe2⟩, rfl⟩
  refine .v (.nilCheck rfl) (.v (.fieldAddr rfl) (.st (.sw rfl rfl) (.nil ?_)))
  refine .seq ((.region (.v (.assign rfl) (.nil ?_))))
  exact .ret ⟨[_], ⟨rfl, trivial⟩, Tb b (Bc ⟨cap, meet, bs, ss, high, seq⟩ (.slice E1 bs.length d1) (.slice E2 ss.length d2)) :: (q1 ++ q2), fun _ s => Sat.take (pre := (b, Ch.cells (bcells cap meet (.slice E1 bs.length d1) (.slice E2 ss.length d2) high seq) 67) :: (q1 ++ q2)) s, rfl, _, _, q1, q2, rfl, oe1, oe2⟩
end Go.Proofs.Ytmfobfamdaajmaa

/- Plain: the kinds of orders; what a refusal changes. -/
namespace Go.Proofs.Ytmfobfamdaajmaa
open Go.V
set_option linter.unusedVariables false
set_option linter.unusedSimpArgs false

theorem fnd_none {id : Int} {bs ss : List Ord} (h : id ∉ ids (bs ++ ss)) : fnd id bs ss = none := by
  have hm : ∀ o ∈ bs ++ ss, o.id ≠ id := fun o ho e => h (List.mem_map.2 ⟨o, ho, e⟩)
  unfold fnd
  rw [idx_no (fun m hm' => hm _ (by simp)), idx_no (fun m hm' => hm _ (by simp))]
  rfl
theorem fnd_some {id : Int} {bs ss : List Ord} (h : id ∈ ids (bs ++ ss)) : ∃ p, fnd id bs ss = some p ∧ p.2 ∈ bs ++ ss ∧ p.2.id = id := by
  rcases idx_spec id bs with ⟨e1, n1⟩ | ⟨i, hi, e1, hid, _⟩
  · rcases idx_spec id ss with ⟨e2, n2⟩ | ⟨i, hi, e2, hid, _⟩
    · obtain ⟨o, ho, e⟩ := List.mem_map.1 h
      rcases List.mem_append.1 ho with ho | ho
      · obtain ⟨m, hm, rfl⟩ := List.mem_iff_getElem.1 ho; exact absurd e (n1 m hm)
      · obtain ⟨m, hm, rfl⟩ := List.mem_iff_getElem.1 ho; exact absurd e (n2 m hm)
    · exact ⟨(2, ss[i]), by unfold fnd; rw [e1, e2, if_neg (by omega), if_pos (by omega), Int.toNat_natCast, List.getElem?_eq_getElem hi]; rfl, by simp, hid⟩
  · exact ⟨(1, bs[i]), by unfold fnd; rw [e1, if_pos (by omega), Int.toNat_natCast, List.getElem?_eq_getElem hi]; rfl, by simp, hid⟩
theorem tsum_cons {e : Ev} (l : List Ev) (h : e.kind ≠ 3) : tsum (e :: l) = tsum l := by simp [tsum, h]
theorem tsum_two (l : List Ev) (a b : Ev) : tsum (l ++ [a, b]) = if b.kind = 3 then IntKind.u64.wrap (tsum (l ++ [a]) + b.q) else tsum (l ++ [a]) := by
  rw [show l ++ [a, b] = (l ++ [a]) ++ [b] from by simp, tsum_snoc]
theorem tsum_nil : tsum [] = 0 := rfl
/-- trading with events told before -/
def TS.pre (p : List Ev) (s : TS) : TS := ⟨s.L, s.left, s.seq, p ++ s.evs⟩
theorem step_pre (meet : Int) (t : Tk) (p : List Ev) (s : TS) : (s.pre p).step meet t = (s.step meet t).map (TS.pre p) := by
  obtain ⟨L, left, seq, evs⟩ := s
  cases L with
  | nil => rfl
  | cons f rest =>
    have hst : ∀ evs : List Ev, TS.step meet t ⟨f :: rest, left, seq, evs⟩ = if 0 < left ∧ reach t.side t.kind t.o.pr f.pr = true then some (if f.mb = t.o.mb ∧ t.o.mb ≠ 0 ∧ meet ≠ 0 then TS.meets meet t f rest ⟨f :: rest, left, seq, evs⟩ else TS.hit t f rest ⟨f :: rest, left, seq, evs⟩) else none := fun _ => rfl
    show TS.step meet t ⟨f :: rest, left, seq, p ++ evs⟩ = _
    rw [hst, hst]
    by_cases hc : 0 < left ∧ reach t.side t.kind t.o.pr f.pr = true
    · rw [if_pos hc, if_pos hc, Option.map_some]
      congr 1
      by_cases hm : f.mb = t.o.mb ∧ t.o.mb ≠ 0 ∧ meet ≠ 0
      · rw [if_pos hm, if_pos hm]
        simp only [TS.meets]
        by_cases m1 : meet = 1 <;> by_cases m2 : meet = 2 <;> simp [TS.tell, TS.pre, m1, m2]
      · rw [if_neg hm, if_neg hm]
        simp only [TS.hit]
        by_cases c1 : min left f.v < f.v <;> by_cases c2 : 0 < f.hd <;> simp [TS.tell, TS.pre, c1, c2]
    · rw [if_neg hc, if_neg hc]; rfl
theorem TRun.pre {meet : Int} {t : Tk} {s z : TS} (p : List Ev) (h : TRun meet t s z) : TRun meet t (s.pre p) (z.pre p) := by
  induction h with
  | stop hs => exact .stop (by rw [step_pre, hs]; rfl)
  | step hs _ ih => exact .step (by rw [step_pre, hs]; rfl) ih
theorem pre_ok {s : TS} (p : List Ev) (h : s.Ok) : (s.pre p).Ok := ⟨h.good, h.lo, h.hi⟩
theorem tr_pre {meet : Int} {t : Tk} {s : TS} (p : List Ev) (h : s.Ok) : tr meet t (s.pre p) = (tr meet t s).pre p := ((tr_run h).pre p).eq (pre_ok p h) |>.symm
/-- a taker's kind: Market or another -/
theorem step_kind (meet : Int) {t1 t2 : Tk} (s : TS) (h1 : t1.o.id = t2.o.id) (h2 : t1.o.mb = t2.o.mb) (h3 : t1.o.pr = t2.o.pr) (h4 : t1.side = t2.side) (h5 : t1.kind = 2 ↔ t2.kind = 2) : s.step meet t1 = s.step meet t2 := by
  have hr : ∀ p, reach t1.side t1.kind t1.o.pr p = reach t2.side t2.kind t2.o.pr p := fun p => by unfold reach; rw [h4, h3, decide_eq_decide.2 h5]
  obtain ⟨L, left, seq, evs⟩ := s
  cases L with
  | nil => rfl
  | cons f rest =>
    have hst : ∀ t : Tk, TS.step meet t ⟨f :: rest, left, seq, evs⟩ = if 0 < left ∧ reach t.side t.kind t.o.pr f.pr = true then some (if f.mb = t.o.mb ∧ t.o.mb ≠ 0 ∧ meet ≠ 0 then TS.meets meet t f rest ⟨f :: rest, left, seq, evs⟩ else TS.hit t f rest ⟨f :: rest, left, seq, evs⟩) else none := fun _ => rfl
    rw [hst, hst]
    rw [hr f.pr]
    simp only [TS.meets, TS.hit, h1, h2, h4]
theorem TRun.kind {meet : Int} {t1 t2 : Tk} {s z : TS} (h : TRun meet t1 s z) (h1 : t1.o.id = t2.o.id) (h2 : t1.o.mb = t2.o.mb) (h3 : t1.o.pr = t2.o.pr) (h4 : t1.side = t2.side) (h5 : t1.kind = 2 ↔ t2.kind = 2) : TRun meet t2 s z := by
  induction h with
  | stop hs => exact .stop (by rw [← step_kind meet _ h1 h2 h3 h4 h5]; exact hs)
  | step hs _ ih => exact .step (by rw [← step_kind meet _ h1 h2 h3 h4 h5]; exact hs) ih
/-- what is left and what was traded, together -/
theorem step_sum {meet : Int} {t : Tk} {s s' : TS} (h : s.Ok) (hs : s.step meet t = some s') (h0 : 0 ≤ tsum s.evs) (h1 : s.left + tsum s.evs ≤ 4294967295) :
    0 ≤ tsum s'.evs ∧ s'.left + tsum s'.evs ≤ s.left + tsum s.evs := by
  obtain ⟨L, left, seq, evs⟩ := s
  obtain ⟨hg, hlo, hhi⟩ := h
  unfold TS.step at hs
  simp only at hs hg hlo hhi h0 h1
  cases L with
  | nil => cases hs
  | cons f rest =>
    simp only at hs
    split at hs
    · rename_i hc
      have hfG := hg f (by simp)
      have hv : 1 ≤ f.v := hfG.1
      have hw : IntKind.u64.wrap (tsum evs + min left f.v) = tsum evs + min left f.v := wrap_u64_in (by omega)
      simp only [Option.some.injEq] at hs
      subst hs
      split
      · simp only [TS.meets]
        by_cases m1 : meet = 1
        · rw [if_pos m1, if_neg (show ¬ meet = 2 by omega)]
          simp [TS.tell, tsum_snoc, evCancel, Ev.num]; omega
        · rw [if_neg m1]
          by_cases m2 : meet = 2
          · rw [if_pos m2]; simp [TS.tell, tsum_snoc, evCancel, Ev.num]; omega
          · rw [if_neg m2]
            simp [TS.tell, tsum_two, tsum_snoc, evCancel, Ev.num]; omega
      · simp only [TS.hit]
        split
        · simp [TS.tell, tsum_snoc, evTrade, Ev.num, hw]; omega
        · split
          · have e : ∀ (x y : Ev), tsum (evs ++ [x, y]) = tsum ((evs ++ [x]) ++ [y]) := fun x y => by simp
            simp [TS.tell, tsum_two, tsum_snoc, evTrade, evRefresh, Ev.num, hw]; omega
          · simp [TS.tell, tsum_snoc, evTrade, Ev.num, hw]; omega
    · cases hs
theorem TRun.sum {meet : Int} {t : Tk} {s z : TS} (hr : TRun meet t s z) (h : s.Ok) (h0 : 0 ≤ tsum s.evs) (h1 : s.left + tsum s.evs ≤ 4294967295) : 0 ≤ tsum z.evs ∧ z.left + tsum z.evs ≤ s.left + tsum s.evs := by
  induction hr with
  | stop _ => exact ⟨h0, Int.le_refl _⟩
  | step hs _ ih =>
    obtain ⟨a1, a2⟩ := step_sum h hs h0 h1
    obtain ⟨b1, b2⟩ := ih (h.step hs).1 a1 (by omega)
    exact ⟨b1, by omega⟩
/-- the order of a New -/
def newTk (c : Cm) : Tk := ⟨⟨c.id, c.mb, c.ty, c.pr, 0, 0, c.pk⟩, c.sd, c.ty, c.q⟩
theorem cmg_new {c : Cm} (tg : Option Ord) (side : Int) (h : c.k = 1) : cmg c tg side = newTk c := by
  unfold cmg
  cases tg with
  | none => rfl
  | some o => simp only; rw [if_neg (by omega)]; rfl
theorem does_new {B : Bk} {c : Cm} (h0 : B.why c = 0) (h1 : c.k = 1) : B.does c = Bk.comes ((B.num (nx B.seq)).top c.id) [(evAck (newTk c)).num (nx B.seq)] (newTk c) := by
  have hg : B.goes c = B := by unfold Bk.goes; rw [if_neg (by omega)]
  have hn : B.gone c = [] := by unfold Bk.gone; rw [if_neg (by omega)]
  unfold Bk.does
  rw [if_neg (by omega), if_pos (by omega), cmg_new _ _ h1, hg, hn]
  rfl
theorem does_no {B : Bk} {c : Cm} (h0 : B.why c ≠ 0) : B.does c = (B.num (nx B.seq), [(evReject (if c.k = 2 then 0 else c.id) (if c.k = 1 then 0 else c.tg) (B.why c)).num (nx B.seq)]) := by
  unfold Bk.does; rw [if_pos h0]
/-- the first event: no refusal -/
theorem does_head {B : Bk} {c : Cm} (h : B.Vl) (hw : c.wf) (h0 : B.why c = 0) : ∃ e l, (B.does c).2 = e :: l ∧ e.kind ≠ 2 := by
  obtain ⟨z1, z2, z3, z4, z5⟩ := rfs_zero h0
  have hk := chk_kinds (c := c) (by rw [z2]; decide)
  have hgone : c.k ≠ 1 → ∃ e, B.gone c = [e] ∧ e.kind = 4 := fun h1 => by
    unfold Bk.gone
    rw [if_pos h1]
    cases ht : B.tgt c with
    | none => exact absurd ht (z1 h1)
    | some o => exact ⟨_, rfl, rfl⟩
  unfold Bk.does
  rw [if_neg (by omega)]
  by_cases h2 : c.k ≠ 2
  · rw [if_pos h2]
    obtain ⟨hV, hlt⟩ := cmg_V h hw h0 h2
    have hgv := goes_vl (c := c) h z1
    have hgc := goes_cap B c
    generalize cmg c (B.tgt c) (B.at_ c).1 = t at *
    obtain ⟨l, a1, _⟩ := comes_evs (B := ((B.goes c).num (nx (B.goes c).seq)).top t.o.id) (evs := B.gone c ++ [(evAck t).num (nx (B.goes c).seq)]) (t := t) (ts_ok' (top_vl (num_vl _ hgv) (by show (B.goes c).high ≤ _; rw [hgc.2.2]; omega)) hV)
    rw [a1]
    by_cases h1 : c.k = 1
    · have hn : B.gone c = [] := by unfold Bk.gone; rw [if_neg (by omega)]
      rw [hn]
      exact ⟨_, _, rfl, by show (1 : Int) ≠ 2; decide⟩
    · obtain ⟨e, he, hke⟩ := hgone h1
      rw [he]
      exact ⟨e, _, rfl, by omega⟩
  · rw [if_neg h2]
    obtain ⟨e, he, hke⟩ := hgone (by omega)
    exact ⟨e, [], he, by omega⟩
/-- what a kind of order may do -/
structure KindOk (ty q id : Int) (B' : Bk) (evs : List Ev) : Prop where
  goes : ty = 2 ∨ ty = 3 ∨ ty = 4 → fnd id B'.bs B'.ss = none
  fok : ty = 4 → tsum evs = 0 ∨ tsum evs = q
  post : ty = 5 → (fnd id B'.bs B'.ss).isSome = true ∧ tsum evs = 0
theorem put_ids {B : Bk} {s : Int} {o : Ord} (hs : s = 1 ∨ s = 2) : o.id ∈ ids ((B.put s (rst s o (B.side s))).bs ++ (B.put s (rst s o (B.side s))).ss) := by
  refine List.mem_map.2 ⟨o, ?_, rfl⟩
  have := (rst_perm s o (B.side s)).mem_iff (a := o)
  rcases hs with rfl | rfl
  · exact List.mem_append_left _ (this.2 (by simp))
  · exact List.mem_append_right _ (this.2 (by simp))
theorem does_kind {B : Bk} {c : Cm} (h : B.Vl) (hw : c.wf) (h0 : B.why c = 0) (h1 : c.k = 1) : KindOk c.ty c.q c.id (B.does c).1 (B.does c).2 := by
  obtain ⟨z1, z2, z3, z4, z5⟩ := rfs_zero h0
  obtain ⟨s1, s2, s3, s4, s5, s6, s7, s8⟩ := chk_sized z2 (by omega) hw
  obtain ⟨hV, hlt⟩ := cmg_V h hw h0 (by omega)
  have hg : B.goes c = B := by unfold Bk.goes; rw [if_neg (by omega)]
  rw [hg, cmg_new _ _ h1] at hV
  rw [cmg_new _ _ h1] at hlt
  rw [does_new h0 h1]
  have hB0 : ((B.num (nx B.seq)).top c.id).Vl := top_vl (num_vl _ h) (Int.le_of_lt hlt)
  have hV : (newTk c).V ((B.num (nx B.seq)).top c.id) := hV
  generalize (B.num (nx B.seq)).top c.id = B0 at *
  have hack : ((evAck (newTk c)).num (nx B.seq)).kind ≠ 3 := by show (1 : Int) ≠ 3; decide
  generalize (evAck (newTk c)).num (nx B.seq) = ack at *
  have hOk := ts_ok' (evs := [ack]) hB0 hV
  have hOk0 := ts_ok' (evs := []) hB0 hV
  have hpre : B0.ts [ack] (newTk c) = (B0.ts [] (newTk c)).pre [ack] := rfl
  have hrun0 := tr_run (meet := B0.meet) (t := newTk c) hOk0
  have hrun := hrun0.pre [ack]
  have htr : tr B0.meet (newTk c) (B0.ts [ack] (newTk c)) = (tr B0.meet (newTk c) (B0.ts [] (newTk c))).pre [ack] := tr_pre [ack] hOk0
  obtain ⟨y1, y2⟩ := hrun0.sum hOk0 (by show 0 ≤ tsum []; decide) (by show c.q + tsum [] ≤ _; rw [tsum_nil]; omega)
  have hfresh : c.id ∉ ids (B0.bs ++ B0.ss) := fun hm => by have := hV.fresh _ hm; exact absurd this (Int.lt_irrefl _)
  obtain ⟨zok, zlen, _, zl⟩ := hrun.ok (pre_ok _ hOk0)
  have hstop : c.ty = 5 → tr B0.meet (newTk c) (B0.ts [] (newTk c)) = B0.ts [] (newTk c) := fun h5 => by
    have hp := hV.post h5
    refine (TRun.det (TRun.stop ?_) hrun0).symm
    unfold TS.step Bk.ts
    simp only
    cases hL : B0.side (3 - (newTk c).side) with
    | nil => rfl
    | cons f L =>
      rw [hL] at hp
      have hp : reach (newTk c).side (newTk c).kind (newTk c).o.pr f.pr = false := hp
      simp only [hp]; simp
  unfold Bk.comes
  rw [htr]
  obtain ⟨v1, v2, v3, v4, v5⟩ := traded_vl hB0 hV.sd hrun zlen
  generalize tr B0.meet (newTk c) (B0.ts [] (newTk c)) = z at *
  have hk : (newTk c).kind = c.ty := rfl
  have hq : (newTk c).left = c.q := rfl
  have hts : tsum (z.pre [ack]).evs = tsum z.evs := tsum_cons z.evs hack
  have hfr2 : c.id ∉ ids ((B0.traded (newTk c) (z.pre [ack])).bs ++ (B0.traded (newTk c) (z.pre [ack])).ss) := fun hm => hfresh (v2 hm)
  have hzl : (z.pre [ack]).left = z.left := rfl
  split
  · rename_i hc
    refine ⟨fun _ => fnd_none hfresh, fun _ => .inl ?_, fun h5 => by omega⟩
    rw [List.singleton_append, tsum_cons _ hack]
    rfl
  · rename_i hc
    simp only
    split
    · rename_i hl
      refine ⟨fun _ => fnd_none hfr2, fun h4 => .inr ?_, fun h5 => ?_⟩
      · have : tsum z.evs = c.q := Decidable.of_not_not fun e => hc ⟨h4, e⟩
        show tsum (z.pre [ack]).evs = c.q
        rw [hts]; exact this
      · rw [hstop h5] at hl
        have : (newTk c).left = 0 := hl
        omega
    · rename_i hl
      split
      · rename_i hkk
        refine ⟨fun _ => fnd_none hfr2, fun h4 => .inr ?_, fun h5 => by omega⟩
        have : tsum z.evs = c.q := Decidable.of_not_not fun e => hc ⟨h4, e⟩
        rw [tsum_snoc, if_neg (by show ¬ (4 : Int) = 3; decide)]
        show tsum (z.pre [ack]).evs = c.q
        rw [hts]; exact this
      · rename_i hkk
        refine ⟨fun h234 => by omega, fun h4 => by omega, fun h5 => ⟨?_, ?_⟩⟩
        · have := put_ids (B := B0.traded (newTk c) (z.pre [ack])) (s := (newTk c).side) (o := restOf (newTk c).o (z.pre [ack]).left) hV.sd
          obtain ⟨p, hp, _⟩ := fnd_some this
          have e : (restOf (newTk c).o (z.pre [ack]).left).id = c.id := rfl
          rw [e] at hp
          show (fnd c.id _ _).isSome = true
          rw [hp]; rfl
        · show tsum (z.pre [ack]).evs = 0
          rw [hts, hstop h5]; rfl
end Go.Proofs.Ytmfobfamdaajmaa

/- The law RulesSound: its walk. -/
namespace Go.Proofs.Ytmfobfamdaajmaa
open Go.V
set_option linter.unusedVariables false
set_option linter.unusedSimpArgs false

theorem Side.ld {w0 : World} {own : List Nat} {b o n c i j : Nat} {l : List Ord} {h hs : Hp} {v : Value} (k : Side (.slice (some ⟨b, o, none⟩) n c) l h) (hh : h ⊆ hs) (hi : i < l.length) (hj : j < 7) (hv : (l[i].cells)[j]? = some v) : At w0 own hs ⟨b, o + i * 7 + j, none⟩ [v] := by
  rw [Nat.add_assoc]
  exact OwnS.at1 k hh (by rw [rows_get l i j hi hj]; exact hv)
theorem Sd.at {s : Int} {l : List Ord} (h : Sd s l) {k : Nat} (hk : k + 1 < l.length) : bet s l[k + 1].pr l[k].pr = false := List.pairwise_iff_getElem.1 h k (k + 1) (by omega) hk (by omega)
abbrev Bx (b : Nat) (cc cm : Int) : Nat × Ch := (b, .cells [.int .i64 cc, .int .i64 cm] 27)
def BS.V (x : BS) (n : Nat) (cc : Int) : Prop := x.i ≤ n ∧ x.B.Vl ∧ x.B.cap = cc ∧ Side x.v1 x.B.bs x.k1 ∧ Side x.v2 x.B.ss x.k2
theorem does_cap (B : Bk) (c : Cm) : (B.does c).1.cap = B.cap ∧ (B.does c).1.meet = B.meet := by
  have hg := goes_cap B c
  unfold Bk.does
  split
  · exact ⟨rfl, rfl⟩
  · split
    · unfold Bk.comes
      split
      · exact ⟨hg.1, hg.2.1⟩
      · simp only
        split
        · unfold Bk.traded
          have := (((B.goes c).num (nx (B.goes c).seq)).top (cmg c (B.tgt c) (B.at_ c).1).o.id).put_cap (3 - (cmg c (B.tgt c) (B.at_ c).1).side)
          refine ⟨(this _).1.trans hg.1, (this _).2.1.trans hg.2.1⟩
        · split
          · unfold Bk.traded
            have := (((B.goes c).num (nx (B.goes c).seq)).top (cmg c (B.tgt c) (B.at_ c).1).o.id).put_cap (3 - (cmg c (B.tgt c) (B.at_ c).1).side)
            refine ⟨(this _).1.trans hg.1, (this _).2.1.trans hg.2.1⟩
          · have := (((B.goes c).num (nx (B.goes c).seq)).top (cmg c (B.tgt c) (B.at_ c).1).o.id).put_cap (3 - (cmg c (B.tgt c) (B.at_ c).1).side)
            refine ⟨(Bk.put_cap _ _ _).1.trans ((this _).1.trans hg.1), (Bk.put_cap _ _ _).2.1.trans ((this _).2.1.trans hg.2.1)⟩
    · exact ⟨hg.1, hg.2.1⟩
set_option maxRecDepth 10000 in
theorem RulesSound_ok (w : World) (cc cm : Int) (A : Option Addr) (len cap : Nat) (l : List Cm) (hl : len = l.length) (hA : Rd w [] A (crows l)) (hb : len ≤ 4503599627370496) (hw : ∀ c ∈ l, c.wf) :
    Is Try.prog 8 [.agg ⟨[.int .i64 cc, .int .i64 cm]⟩, .slice A len cap] w (.bool true) := by
  refine Does.pure (Does.of (n := 129) Try.func8 rfl rfl rfl rfl ?_)
  refine .seq ((.region (.nw (.box rfl rfl) fun b2 => (.v (.assign rfl) (.nil ?_)))))
  refine .seq ((.region (.v (.loadA (vs := [.int .i64 cc, .int .i64 cm]) rfl .whole rfl) ?_)))
  refine .ef (.call0 rfl rfl fun w s => begun_ok w cc cm) ?_
  rintro _ _ ⟨_, hN, rfl⟩
  by_cases hc : Cfg cc cm
  case neg =>
    rw [if_neg hc] at hN
    obtain ⟨rfl, rfl⟩ := hN
    refine .v (.move rfl) (.v (.extract rfl rfl) (.v (.extract rfl rfl) (.v (.assign rfl) (.v (.assign rfl) (.nil ?_)))))
    refine .seq (.seq ((.region (.v (.move rfl) (.v (.eql_ptr_nil rfl rfl) (.v (.move rfl) (.or (b2 := false) 18 20 2 2 rfl rfl (fun g1 => absurd g1 (by simp)) (.nil ?_))))))))
    refine .cond rfl (fun _ => ?_) (fun h => absurd h (by simp))
    refine .seq ((.region (.v (.move rfl) (.v (.assign rfl) (.nil ?_)))))
    exact .ret ⟨[_], ⟨rfl, trivial⟩, rfl⟩
  rw [if_pos hc] at hN
  obtain ⟨b, rfl, rfl⟩ := hN
  refine .v (.move rfl) (.v (.extract rfl rfl) (.v (.extract rfl rfl) (.v (.assign rfl) (.v (.assign rfl) (.nil ?_)))))
  refine .seq (.seq ((.region (.v (.move rfl) (.v (.eql_ptr_nil rfl rfl) (.v (.move rfl) (.or 18 20 2 2 rfl rfl (fun g1 => .v (.move rfl) (.v (.not rfl) (.nil ⟨rfl, rfl, rfl, rfl⟩))) (.nil ?_))))))))
  refine .cond rfl (fun h => absurd h (by simp)) (fun _ => .skip ?_)
  refine .seq (.seq ((.region (.v (.assign rfl) (.nil ?_)))))
  refine .block (.loop (X := BS) (fun x => [(1, .slice A len cap), (2, .pointer (some ⟨b2, 0, none⟩)), (5, .pointer (some ⟨b, 0, none⟩)), (7, .int .i64 x.i)]) (fun x => Bx b2 cc cm :: x.H b) (fun x => x.V len cc) (fun x => len - x.i)
    ⟨0, newB cc cm, .slice none 0 0, .slice none 0 0, [], []⟩ ⟨by simp, newB_vl hc, rfl, OwnS.nil _ _, OwnS.nil _ _⟩ (.cons rfl (.cons rfl (.cons rfl (.cons rfl (.nil _))))) (fun _ s => Sat.take (pre := Bx b2 cc cm :: Tb b (Bc (newB cc cm) (.slice none 0 0) (.slice none 0 0)) :: ([] ++ [])) s) ?_)
  rintro ⟨i, B, v1, v2, k1, k2⟩ ⟨hi, hI, hcap0, h1, h2⟩
  dsimp only at hi hI hcap0 h1 h2 ⊢
  refine .seq (.seq ((.region (.v (.move rfl) (.v (.move rfl) (.v (.len rfl) (.v (.lss rfl rfl) (.nil ?_))))))))
  refine .cond_dec rfl (fun g2 => .skip ?_) (fun g2 => .exit ?_)
  · have hil : i < l.length := by omega
    obtain ⟨ba, oa, rfl, hat⟩ := Rd.cm hA (by omega)
    have hcw := hw _ (List.getElem_mem hil)
    have hat := hat i hil
    generalize l[i] = c at hat hcw
    have hI' := does_vl hI hcw
    have hcap' := (does_cap B c).1.trans hcap0
    refine .seq (.block (.seq ((.region (.v (.move rfl) (.v (.move rfl) (.v (.move rfl) (.v (.indexAddr rfl rfl (by omega) (by omega)) (.v (.loadA (vs := c.cells) rfl (hat _ _ (by simp [bl])) rfl) ?_)))))))))
    refine .ef (.callT (Tb b (Bc B v1 v2) :: (k1 ++ k2)) rfl rfl (fun w s => Does.call_Do w b B hI.inv.ok c hcw.2.1 hcw.2.2 v1 v2 k1 k2 h1 h2)) ?_
    generalize hB : B.does c = D at hI' hcap'
    obtain ⟨B', evs⟩ := D
    rintro _ _ ⟨_, ⟨A', c', v1', v2', k1', k2', ke, rfl, rfl, h1', h2', hE⟩, rfl⟩
    dsimp only at hI' hcap' h1' h2' hE ⊢
    clear hB hE hI h1 h2 hcap0
    refine .nil ?_
    refine .keep (Bx b2 cc cm :: (Tb b (Bc B' v1' v2') :: (k1' ++ k2'))) ?_
    obtain ⟨A1, c1, rfl⟩ := OwnS.sl h1'
    obtain ⟨A2, c2, rfl⟩ := OwnS.sl h2'
    have hlen := hI'.len
    have hcapb := hI'.inv.hi
    refine .seq ((.region (.v (.move rfl) ?_)))
    refine .ef (.call0 rfl rfl fun w s => Book_ok w b B'.cap B'.meet B'.high B'.seq A1 A2 c1 c2 B'.bs B'.ss (Rd.chunk s (T := 67) (l := Bc B' (.slice A1 B'.bs.length c1) (.slice A2 B'.ss.length c2)) (by simp) (fun j v hv => by rw [Nat.zero_add]; exact hv)) (OwnS.rd h1' s (no := []) (fun p hp => by simp [hp]) (by simp)) (OwnS.rd h2' s (no := []) (fun p hp => by simp [hp]) (by simp)) (by omega) (by omega)) ?_
    rintro _ _ ⟨_, ⟨E1, E2, d1, d2, q1, q2, rfl, rfl, oe1, oe2⟩, rfl⟩
    refine .nw .alloc fun b8 => (.st (.sw rfl rfl) (.nil ?_))
    refine .heap (hs' := (b8, .cells (bcells B'.cap B'.meet (.slice E1 B'.bs.length d1) (.slice E2 B'.ss.length d2) B'.high B'.seq) 30) :: ((q2 ++ q1) ++ (Bx b2 cc cm :: Tb b (Bc B' (.slice A1 B'.bs.length c1) (.slice A2 B'.ss.length c2)) :: (k1' ++ k2')))) (fun _ s => s) ?_
    refine .seq (.seq ((.drawK _ (fun _ h => h) (by kernel_rfl) (by kernel_rfl) ?_)))
    refine .v (fun _ f => .fieldAddr rfl) (.v (fun _ f => .load (v := .slice E1 B'.bs.length d1) rfl (.one (hb := .sub f) rfl)) (.v (fun _ f => .len rfl) (.v (fun _ f => .fieldAddr rfl) (.v (fun _ f => .load (v := .slice E2 B'.ss.length d2) rfl (.one (hb := .sub f) rfl)) (.v (fun _ f => .len rfl) (.v (fun _ f => .addi rfl rfl (by omega)) (.v (fun _ f => .fieldAddr rfl) (.v (fun _ f => .load (v := .int .i64 cc) rfl (.one (hb := .sub f) rfl)) (.v (fun _ f => .gtr rfl rfl) (.v (fun _ f => .move rfl) ?_))))))))))
    refine .or 47 57 10 10 rfl rfl (fun g2 => .v (fun _ f => .fieldAddr rfl) (.v (fun _ f => .load (v := .slice E1 B'.bs.length d1) rfl (.one (hb := .sub f) rfl)) (.v (fun _ f => .len rfl) (.v (fun _ f => .fieldAddr rfl) (.v (fun _ f => .load (v := .slice E2 B'.ss.length d2) rfl (.one (hb := .sub f) rfl)) (.v (fun _ f => .len rfl) (.v (fun _ f => .addi rfl rfl (by omega)) (.v (fun _ f => .move rfl) (.pc rfl rfl (fun w s => Len_is w b B'.cap B'.meet B'.high B'.seq A1 A2 B'.bs.length B'.ss.length c1 c2 (Rd.chunk s (T := 67) (l := Bc B' (.slice A1 B'.bs.length c1) (.slice A2 B'.ss.length c2)) (by simp) (fun j v hv => by rw [Nat.zero_add]; exact hv)) (by omega) (by omega)) (.v (fun _ f => .nei rfl rfl) (.nil ⟨rfl, rfl, rfl, rfl⟩))))))))))) ?_
    refine .v (fun _ f => .move rfl) (.or 59 62 3 3 rfl rfl (fun g3 => .v (fun _ f => .loadA (vs := bcells B'.cap B'.meet (.slice E1 B'.bs.length d1) (.slice E2 B'.ss.length d2) B'.high B'.seq) rfl (.whole (hb := .sub f)) rfl) (.pc rfl rfl (fun w s => Valid_ok w B'.cap B'.meet B'.high B'.seq E1 E2 d1 d2 B'.bs B'.ss (OwnS.rd oe1 s (no := []) (fun p hp => by simp [hp]) (by simp)) (OwnS.rd oe2 s (no := []) (fun p hp => by simp [hp]) (by simp)) (fun o ho => (hI'.rests o ho).2) (by omega) (by omega)) (.v (fun _ f => .nei rfl rfl) (.nil ⟨rfl, rfl, rfl, rfl⟩)))) (.nil ?_))
    refine .cond rfl (fun h => ?_) (fun _ => .skip ?_)
    · exfalso
      rw [hI'.vld] at h
      simp at h
      omega
    have hF : ∀ (b o n c i : Nat) (q : Hp) (ls : List Ord) (j : Nat) (v : Value) (w0 : World) (own : List Nat) (hs : Hp), Side (.slice (some ⟨b, o, none⟩) n c) ls q → q ⊆ hs → (hi : i < ls.length) → j < 7 → (ls[i].cells)[j]? = some v → At w0 own hs ⟨b, o + i * 7 + j, none⟩ [v] := fun b o n c i q ls j v w0 own hs k hh hi hj hv => Side.ld k hh hi hj hv
    have hcross : ¬ (0 < B'.bs.length ∧ 0 < B'.ss.length ∧ ∃ x ∈ B'.bs, ∃ y ∈ B'.ss, y.pr ≤ x.pr) := fun ⟨_, _, x, hx, y, hy, e⟩ => by have := hI'.cross x hx y hy; omega
    refine .mid (X := Unit) (fun _ => [(1, .slice (some ⟨ba, oa, none⟩) len cap), (2, .pointer (some ⟨b2, 0, none⟩)), (5, .pointer (some ⟨b, 0, none⟩)), (7, .int .i64 i), (8, .pointer (some ⟨b8, 0, none⟩))]) (fun _ => (b8, .cells (bcells B'.cap B'.meet (.slice E1 B'.bs.length d1) (.slice E2 B'.ss.length d2) B'.high B'.seq) 30) :: ((q2 ++ q1) ++ (Bx b2 cc cm :: Tb b (Bc B' (.slice A1 B'.bs.length c1) (.slice A2 B'.ss.length c2)) :: (k1' ++ k2'))))
      (fun _ => True) ?_ ?_
    · by_cases hp : 0 < B'.bs.length ∧ 0 < B'.ss.length
      · obtain ⟨hp1, hp2⟩ := hp
        obtain ⟨e1, o1, l1, rfl, -⟩ := oe1.some_ hp1
        obtain ⟨e2, o2, l2, rfl, -⟩ := oe2.some_ hp2
        refine .seq ((.drawK _ (fun _ h => h) (by kernel_rfl) (by kernel_rfl) ?_))
        refine .v (fun _ f => .fieldAddr rfl) (.v (fun _ f => .load (v := .slice (some ⟨e1, o1, none⟩) B'.bs.length d1) rfl (.one (hb := .sub f) rfl)) (.v (fun _ f => .len rfl) (.v (fun _ f => .gtr rfl rfl) (.v (fun _ f => .move rfl) ?_))))
        refine .and 68 72 4 4 rfl rfl (fun g4 => .v (fun _ f => .fieldAddr rfl) (.v (fun _ f => .load (v := .slice (some ⟨e2, o2, none⟩) B'.ss.length d2) rfl (.one (hb := .sub f) rfl)) (.v (fun _ f => .len rfl) (.v (fun _ f => .gtr rfl rfl) (.nil ⟨rfl, rfl, rfl, rfl⟩))))) ?_
        refine .v (fun _ f => .move rfl) (.and 74 85 11 11 rfl rfl (fun g5 => .v (fun _ f => .fieldAddr rfl) (.v (fun _ f => .load (v := .slice (some ⟨e1, o1, none⟩) B'.bs.length d1) rfl (.one (hb := .sub f) rfl)) (.v (fun _ f => .indexAddr rfl rfl (by omega) (by omega)) (.v (fun _ f => .fieldAddr rfl) (.v (fun _ f => .load (v := .int .i64 (B'.bs[0]'hp1).pr) rfl (Side.ld (i := 0) (j := 3) oe1 (fun p hp => f (by simp [hp])) hp1 (by omega) rfl)) (.v (fun _ f => .fieldAddr rfl) (.v (fun _ f => .load (v := .slice (some ⟨e2, o2, none⟩) B'.ss.length d2) rfl (.one (hb := .sub f) rfl)) (.v (fun _ f => .indexAddr rfl rfl (by omega) (by omega)) (.v (fun _ f => .fieldAddr rfl) (.v (fun _ f => .load (v := .int .i64 (B'.ss[0]'hp2).pr) rfl (Side.ld (i := 0) (j := 3) oe2 (fun p hp => f (by simp [hp])) hp2 (by omega) rfl)) (.v (fun _ f => .geq rfl rfl) (.nil ⟨rfl, rfl, rfl, rfl⟩)))))))))))) (.nil ?_))
        refine .cond rfl (fun h => ?_) (fun _ => ?_)
        · exfalso
          have := hI'.cross _ (List.getElem_mem hp1) _ (List.getElem_mem hp2)
          simp at h
          omega
        · exact .skip ⟨(), trivial, .cons rfl (.cons rfl (.cons rfl (.cons rfl (.cons rfl (.nil _))))), fun _ s => s⟩
      · refine .seq ((.drawK _ (fun _ h => h) (by kernel_rfl) (by kernel_rfl) ?_))
        refine .v (fun _ f => .fieldAddr rfl) (.v (fun _ f => .load (v := .slice E1 B'.bs.length d1) rfl (.one (hb := .sub f) rfl)) (.v (fun _ f => .len rfl) (.v (fun _ f => .gtr rfl rfl) (.v (fun _ f => .move rfl) ?_))))
        refine .and 68 72 4 4 rfl rfl (fun g4 => .v (fun _ f => .fieldAddr rfl) (.v (fun _ f => .load (v := .slice E2 B'.ss.length d2) rfl (.one (hb := .sub f) rfl)) (.v (fun _ f => .len rfl) (.v (fun _ f => .gtr rfl rfl) (.nil ⟨rfl, rfl, rfl, rfl⟩))))) ?_
        refine .v (fun _ f => .move rfl) (.and (b2 := false) 74 85 11 11 rfl rfl (fun g5 => False.elim (by simp only [Bool.and_eq_true, Bool.or_eq_true, Bool.not_eq_true', Bool.and_eq_false_iff, Bool.or_eq_false_iff, Bool.not_eq_false', decide_eq_true_eq, decide_eq_false_iff_not, Bool.false_eq_true, false_iff] at g5; omega)) (.nil ?_))
        refine .cond rfl (fun h => absurd h (by simp)) (fun _ => ?_)
        exact .skip ⟨(), trivial, .cons rfl (.cons rfl (.cons rfl (.cons rfl (.cons rfl (.nil _))))), fun _ s => s⟩
    · rintro ⟨⟩ -
      refine .seq (.seq ((.region (.v (.assign rfl) (.nil ?_)))))
      refine .block (.loop (X := Nat) (fun k => [(1, .slice (some ⟨ba, oa, none⟩) len cap), (2, .pointer (some ⟨b2, 0, none⟩)), (5, .pointer (some ⟨b, 0, none⟩)), (7, .int .i64 i), (8, .pointer (some ⟨b8, 0, none⟩)), (9, .int .i64 (k + 1 : Nat))]) (fun _ => (b8, .cells (bcells B'.cap B'.meet (.slice E1 B'.bs.length d1) (.slice E2 B'.ss.length d2) B'.high B'.seq) 30) :: ((q2 ++ q1) ++ (Bx b2 cc cm :: Tb b (Bc B' (.slice A1 B'.bs.length c1) (.slice A2 B'.ss.length c2)) :: (k1' ++ k2'))))
        (fun k => k ≤ B'.bs.length) (fun k => B'.bs.length - k) 0 (Nat.zero_le _) (.cons rfl (.cons rfl (.cons rfl (.cons rfl (.cons rfl (.cons rfl (.nil _))))))) (fun _ s => s) ?_)
      intro k hk
      refine .seq (.seq ((.region (.v (.move rfl) (.v (.fieldAddr rfl) (.v (.load (v := .slice E1 B'.bs.length d1) rfl (.one rfl)) (.v (.len rfl) (.v (.lss rfl rfl) (.nil ?_)))))))))
      refine .cond_dec rfl (fun h5 => .skip ?_) (fun h5 => .exit ?_)
      · have hk1 : k + 1 < B'.bs.length := by omega
        obtain ⟨e1, o1, l1, rfl, -⟩ := oe1.some_ (by omega)
        have hbet := hI'.s1.at hk1
        refine .seq (.block (.seq ((.drawK _ (fun _ h => h) (by kernel_rfl) (by kernel_rfl) ?_))))
        refine .v (fun _ f => .fieldAddr rfl) (.v (fun _ f => .load (v := .slice (some ⟨e1, o1, none⟩) B'.bs.length d1) rfl (.one (hb := .sub f) rfl)) (.v (fun _ f => .move rfl) (.v (fun _ f => .indexAddr rfl rfl (by omega) (by omega)) (.v (fun _ f => .fieldAddr rfl) (.v (fun _ f => .load (v := .int .i64 (B'.bs[k + 1]'hk1).pr) rfl (Side.ld (i := k + 1) (j := 3) oe1 (fun p hp => f (by simp [hp])) hk1 (by omega) rfl)) (.v (fun _ f => .fieldAddr rfl) (.v (fun _ f => .load (v := .slice (some ⟨e1, o1, none⟩) B'.bs.length d1) rfl (.one (hb := .sub f) rfl)) (.v (fun _ f => .move rfl) (.v (fun _ f => .subE (k : Int) rfl rfl (by omega) (by omega)) (.v (fun _ f => .indexAddr rfl rfl (by omega) (by omega)) (.v (fun _ f => .fieldAddr rfl) (.v (fun _ f => .load (v := .int .i64 (B'.bs[k]'(by omega)).pr) rfl (Side.ld (i := k) (j := 3) oe1 (fun p hp => f (by simp [hp])) (by omega) (by omega) rfl)) (.v (fun _ f => .gtr rfl rfl) (.nil ?_))))))))))))))
        refine .cond_dec rfl (fun h6 => ?_) (fun h6 => .skip ?_)
        · exfalso
          unfold bet at hbet; simp at hbet; omega
        · refine .region (.v (.move rfl) (.v (.addE ((k + 1 + 1 : Nat) : Int) rfl rfl (by omega) (by omega)) (.v (.assign rfl) (.nil ?_))))
          exact ⟨k + 1, by omega, by omega, .cons rfl (.cons rfl (.cons rfl (.cons rfl (.cons rfl (.cons rfl (.nil _)))))), fun _ s => s⟩
      · refine .seq ((.region (.v (.assign rfl) (.nil ?_))))
        refine .block (.loop (X := Nat) (fun k => [(1, .slice (some ⟨ba, oa, none⟩) len cap), (2, .pointer (some ⟨b2, 0, none⟩)), (5, .pointer (some ⟨b, 0, none⟩)), (7, .int .i64 i), (8, .pointer (some ⟨b8, 0, none⟩)), (10, .int .i64 (k + 1 : Nat))]) (fun _ => (b8, .cells (bcells B'.cap B'.meet (.slice E1 B'.bs.length d1) (.slice E2 B'.ss.length d2) B'.high B'.seq) 30) :: ((q2 ++ q1) ++ (Bx b2 cc cm :: Tb b (Bc B' (.slice A1 B'.bs.length c1) (.slice A2 B'.ss.length c2)) :: (k1' ++ k2'))))
          (fun k => k ≤ B'.ss.length) (fun k => B'.ss.length - k) 0 (Nat.zero_le _) (.cons rfl (.cons rfl (.cons rfl (.cons rfl (.cons rfl (.cons rfl (.nil _))))))) (fun _ s => s) ?_)
        intro k hk
        refine .seq (.seq ((.region (.v (.move rfl) (.v (.fieldAddr rfl) (.v (.load (v := .slice E2 B'.ss.length d2) rfl (.one rfl)) (.v (.len rfl) (.v (.lss rfl rfl) (.nil ?_)))))))))
        refine .cond_dec rfl (fun h5 => .skip ?_) (fun h5 => .exit ?_)
        · have hk1 : k + 1 < B'.ss.length := by omega
          obtain ⟨e1, o1, l1, rfl, -⟩ := oe2.some_ (by omega)
          have hbet := hI'.s2.at hk1
          refine .seq (.block (.seq ((.drawK _ (fun _ h => h) (by kernel_rfl) (by kernel_rfl) ?_))))
          refine .v (fun _ f => .fieldAddr rfl) (.v (fun _ f => .load (v := .slice (some ⟨e1, o1, none⟩) B'.ss.length d2) rfl (.one (hb := .sub f) rfl)) (.v (fun _ f => .move rfl) (.v (fun _ f => .indexAddr rfl rfl (by omega) (by omega)) (.v (fun _ f => .fieldAddr rfl) (.v (fun _ f => .load (v := .int .i64 (B'.ss[k + 1]'hk1).pr) rfl (Side.ld (i := k + 1) (j := 3) oe2 (fun p hp => f (by simp [hp])) hk1 (by omega) rfl)) (.v (fun _ f => .fieldAddr rfl) (.v (fun _ f => .load (v := .slice (some ⟨e1, o1, none⟩) B'.ss.length d2) rfl (.one (hb := .sub f) rfl)) (.v (fun _ f => .move rfl) (.v (fun _ f => .subE (k : Int) rfl rfl (by omega) (by omega)) (.v (fun _ f => .indexAddr rfl rfl (by omega) (by omega)) (.v (fun _ f => .fieldAddr rfl) (.v (fun _ f => .load (v := .int .i64 (B'.ss[k]'(by omega)).pr) rfl (Side.ld (i := k) (j := 3) oe2 (fun p hp => f (by simp [hp])) (by omega) (by omega) rfl)) (.v (fun _ f => .lss rfl rfl) (.nil ?_))))))))))))))
          refine .cond_dec rfl (fun h6 => ?_) (fun h6 => .skip ?_)
          · exfalso
            unfold bet at hbet; simp at hbet; omega
          · refine .region (.v (.move rfl) (.v (.addE ((k + 1 + 1 : Nat) : Int) rfl rfl (by omega) (by omega)) (.v (.assign rfl) (.nil ?_))))
            exact ⟨k + 1, by omega, by omega, .cons rfl (.cons rfl (.cons rfl (.cons rfl (.cons rfl (.cons rfl (.nil _)))))), fun _ s => s⟩
        · refine .region (.v (.move rfl) (.v (.addi rfl rfl (by omega)) (.v (.assign rfl) (.nil ?_))))
          exact ⟨⟨i + 1, B', _, _, k1', k2'⟩, ⟨by dsimp only; omega, hI', hcap', h1', h2'⟩, by dsimp only; omega, .cons rfl (.cons rfl (.cons rfl (.cons rfl (.nil _)))), fun _ s => Sat.take (pre := Bx b2 cc cm :: Tb b (Bc B' (.slice A1 B'.bs.length c1) (.slice A2 B'.ss.length c2)) :: (k1' ++ k2')) s⟩
  · refine .seq ((.region (.v (.assign rfl) (.nil ?_))))
    exact .ret ⟨[_], ⟨rfl, trivial⟩, rfl⟩
end Go.Proofs.Ytmfobfamdaajmaa

/- The law RulesKinds: its walk. -/
namespace Go.Proofs.Ytmfobfamdaajmaa
open Go.V
set_option linter.unusedVariables false
set_option linter.unusedSimpArgs false

theorem At.cell_ {w0 : World} {own : List Nat} {hs : Hp} {b o : Nat} {vs : List Value} {v : Value} (h : At w0 own hs ⟨b, o, none⟩ vs) (k : Nat) (hv : vs[k]? = some v) : At w0 own hs ⟨b, o + k, none⟩ [v] := by
  intro w s j u hu
  match j, hu with
  | 0, hu => simp at hu; subst hu; rw [add_none, Nat.add_zero]; have := h w s k v hv; rw [add_none] at this; exact this
theorem fndV_form (f : Option (Int × Ord)) : ∃ (o : Ord) (s : Int), fndV f = .tuple ⟨[.agg ⟨o.cells⟩, .int .i64 s, .bool f.isSome]⟩ := by
  cases f with
  | none => exact ⟨ord0, 0, rfl⟩
  | some p => exact ⟨p.2, p.1, rfl⟩
theorem tsum_take {l : List Ev} {j : Nat} (h : j < l.length) : tsum (l.take (j + 1)) = if l[j].kind = 3 then IntKind.u64.wrap (tsum (l.take j) + l[j].q) else tsum (l.take j) := by
  rw [← List.take_append_getElem h, tsum_snoc]
def BS.W (x : BS) (i : Nat) : Prop := x.i = i ∧ x.B.Vl ∧ Side x.v1 x.B.bs x.k1 ∧ Side x.v2 x.B.ss x.k2
set_option maxRecDepth 10000 in
theorem RulesKinds_ok (w : World) (cc cm : Int) (A : Option Addr) (len cap : Nat) (l : List Cm) (hl : len = l.length) (hA : Rd w [] A (crows l)) (hb : len ≤ 4503599627370496) (hw : ∀ c ∈ l, c.wf) :
    Is Try.prog 7 [.agg ⟨[.int .i64 cc, .int .i64 cm]⟩, .slice A len cap] w (.bool true) := by
  refine Does.pure (Does.of (n := 141) Try.func7 rfl rfl rfl rfl ?_)
  refine .seq ((.region (.nw (.box rfl rfl) fun b2 => (.v (.assign rfl) (.nil ?_)))))
  refine .seq ((.region (.v (.loadA (vs := [.int .i64 cc, .int .i64 cm]) rfl .whole rfl) ?_)))
  refine .ef (.call0 rfl rfl fun w s => begun_ok w cc cm) ?_
  rintro _ _ ⟨_, hN, rfl⟩
  by_cases hc : Cfg cc cm
  case neg =>
    rw [if_neg hc] at hN
    obtain ⟨rfl, rfl⟩ := hN
    refine .v (.move rfl) (.v (.extract rfl rfl) (.v (.extract rfl rfl) (.v (.assign rfl) (.v (.assign rfl) (.nil ?_)))))
    refine .seq (.seq ((.region (.v (.move rfl) (.v (.eql_ptr_nil rfl rfl) (.v (.move rfl) (.or (b2 := false) 23 25 2 2 rfl rfl (fun g1 => absurd g1 (by simp)) (.nil ?_))))))))
    refine .cond rfl (fun _ => ?_) (fun h => absurd h (by simp))
    refine .seq ((.region (.v (.move rfl) (.v (.assign rfl) (.nil ?_)))))
    exact .ret ⟨[_], ⟨rfl, trivial⟩, rfl⟩
  rw [if_pos hc] at hN
  obtain ⟨b, rfl, rfl⟩ := hN
  refine .v (.move rfl) (.v (.extract rfl rfl) (.v (.extract rfl rfl) (.v (.assign rfl) (.v (.assign rfl) (.nil ?_)))))
  refine .seq (.seq ((.region (.v (.move rfl) (.v (.eql_ptr_nil rfl rfl) (.v (.move rfl) (.or 23 25 2 2 rfl rfl (fun g1 => .v (.move rfl) (.v (.not rfl) (.nil ⟨rfl, rfl, rfl, rfl⟩))) (.nil ?_))))))))
  refine .cond rfl (fun h => absurd h (by simp)) (fun _ => .skip ?_)
  refine .seq (.seq ((.region (.v (.assign rfl) (.nil ?_)))))
  refine .block (.loop (X := BS) (fun x => [(1, .slice A len cap), (5, .pointer (some ⟨b, 0, none⟩)), (7, .int .i64 x.i)]) (fun x => x.H b) (fun x => x.V len cc) (fun x => len - x.i)
    ⟨0, newB cc cm, .slice none 0 0, .slice none 0 0, [], []⟩ ⟨by simp, newB_vl hc, rfl, OwnS.nil _ _, OwnS.nil _ _⟩ (.cons rfl (.cons rfl (.cons rfl (.nil _)))) (fun _ s => s.take) ?_)
  rintro ⟨i, B, v1, v2, k1, k2⟩ ⟨hi, hI, hcap0, h1, h2⟩
  dsimp only at hi hI hcap0 h1 h2 ⊢
  refine .seq (.seq ((.region (.v (.move rfl) (.v (.move rfl) (.v (.len rfl) (.v (.lss rfl rfl) (.nil ?_))))))))
  refine .cond_dec rfl (fun g2 => .skip ?_) (fun g2 => .exit ?_)
  · have hil : i < l.length := by omega
    obtain ⟨ba, oa, rfl, hat⟩ := Rd.cm hA (by omega)
    have hcw := hw _ (List.getElem_mem hil)
    have hat := hat i hil
    generalize l[i] = c at hat hcw
    have hI' := does_vl hI hcw
    have hel := does_len hI.inv hcw
    have hcap' := (does_cap B c).1.trans hcap0
    have hlen0 := hI.len
    have hcapb0 := hI.inv.hi
    have hlen := hI'.len
    have hcapb := hI'.inv.hi
    refine .mid (X := BS) (fun _ => [(1, .slice (some ⟨ba, oa, none⟩) len cap), (5, .pointer (some ⟨b, 0, none⟩)), (7, .int .i64 i)]) (fun x => x.H b) (fun x => x.i = i ∧ x.B = (B.does c).1 ∧ Side x.v1 x.B.bs x.k1 ∧ Side x.v2 x.B.ss x.k2) (.block (.seq ((.region (.v (.move rfl) ?_))))) ?_
    · obtain ⟨A1, c1, rfl⟩ := OwnS.sl h1
      obtain ⟨A2, c2, rfl⟩ := OwnS.sl h2
      refine .ef (.call0 rfl rfl fun w s => Book_ok w b B.cap B.meet B.high B.seq A1 A2 c1 c2 B.bs B.ss (Rd.chunk s (T := 67) (l := Bc B (.slice A1 B.bs.length c1) (.slice A2 B.ss.length c2)) (by simp) (fun j v hv => by rw [Nat.zero_add]; exact hv)) (OwnS.rd h1 s (no := []) (fun p hp => by simp [hp]) (by simp)) (OwnS.rd h2 s (no := []) (fun p hp => by simp [hp]) (by simp)) (by omega) (by omega)) ?_
      rintro _ _ ⟨_, ⟨E1, E2, d1, d2, q1, q2, rfl, rfl, oe1, oe2⟩, rfl⟩
      refine .nw .alloc fun b8 => (.st (.sw rfl rfl) (.nil ?_))
      refine .heap (hs' := (b8, .cells [.int .i64 B.cap, .int .i64 B.meet, .slice E1 B.bs.length d1, .slice E2 B.ss.length d2, .int .u64 B.high, .int .u64 B.seq] 30) :: ((q2 ++ q1) ++ (Tb b (Bc B (.slice A1 B.bs.length c1) (.slice A2 B.ss.length c2)) :: (k1 ++ k2)))) (fun _ s => s) ?_
      refine .seq ((.region (.v (.move rfl) (.v (.move rfl) (.v (.move rfl) (.v (.indexAddr rfl rfl (by omega) (by omega)) (.v (.loadA (vs := c.cells) rfl (hat _ _ (by simp [bl])) rfl) ?_)))))))
      refine .ef (.callT (Tb b (Bc B (.slice A1 B.bs.length c1) (.slice A2 B.ss.length c2)) :: (k1 ++ k2)) rfl rfl (fun w s => Does.call_Do w b B hI.inv.ok c hcw.2.1 hcw.2.2 _ _ k1 k2 h1 h2)) ?_
      have hno := does_no (B := B) (c := c)
      have hhd := does_head hI hcw
      have hkd := does_kind hI hcw
      generalize B.does c = D at hI' hel hcap' hlen hcapb hno hhd hkd ⊢
      obtain ⟨B', evs⟩ := D
      rintro _ _ ⟨_, ⟨A', c', v1', v2', k1', k2', ke, rfl, rfl, h1', h2', hE⟩, rfl⟩
      dsimp only at hI' hel hcap' hlen hcapb hno hhd hkd h1' h2' hE ⊢
      refine .v (.assign rfl) (.nil ?_)
      have hne : 0 < evs.length := by
        by_cases h0 : B.why c = 0
        · obtain ⟨e, r, he, _⟩ := hhd h0; rw [he]; simp
        · have := congrArg Prod.snd (hno h0); dsimp only at this; rw [this]; simp
      obtain ⟨be, oe, le, rfl, -, rfl, -, -, -⟩ := hE.some_ hne
      have hld : ∀ (j k : Nat) (hj : j < evs.length) (v : Value) (own : List Nat) (hs : Hp), [(be, Ch.cells le 50)] ⊆ hs → k < 13 → (evs[j].cells)[k]? = some v → At w own hs ⟨be, oe + j * 13 + k, none⟩ [v] := fun j k hj v own hs hh hk hv => hE.ld hh hj hk hv
      obtain ⟨A1', c1', rfl⟩ := OwnS.sl h1'
      obtain ⟨A2', c2', rfl⟩ := OwnS.sl h2'
      refine .seq (.seq ((.region (.v (.move rfl) (.v (.len rfl) (.v (.eqi rfl rfl) (.nil ?_)))))))
      refine .cond_dec rfl (fun h3 => False.elim (by omega)) (fun h3 => .skip ?_)
      refine .seq (.seq ((.region (.v (.move rfl) (.v (.indexAddr rfl rfl (by omega) (by omega)) (.v (.fieldAddr rfl) (.v (.load (v := .int .i64 (evs[0]'hne).kind) rfl (hld 0 1 hne _ _ _ (fun p hp => by simp at hp ⊢; simp [hp]) (by omega) rfl)) (.v (.eqi rfl rfl) (.nil ?_)))))))))
      by_cases h0 : B.why c = 0
      · obtain ⟨e, r, he, hek⟩ := hhd h0
        refine .cond_dec rfl (fun h4 => False.elim ?_) (fun h4 => .skip ?_)
        · subst he; exact hek h4
        refine .seq (.seq ((.region (.v (.move rfl) (.v (.move rfl) (.v (.indexAddr rfl rfl (by omega) (by omega)) (.v (.fieldAddr rfl) (.v (.load (v := .int .i64 c.k) rfl (At.cell_ (hat _ _ (by simp [bl])) 0 rfl)) (.v (.nei rfl rfl) (.nil ?_))))))))))
        refine .cond_dec rfl (fun h6 => .exit ?_) (fun h6 => .skip ?_)
        · exact ⟨⟨i, B', _, _, k1', k2'⟩, ⟨rfl, rfl, h1', h2'⟩, .cons rfl (.cons rfl (.cons rfl (.nil _))), fun _ s => Sat.take (pre := Tb b (Bc B' (.slice A1' B'.bs.length c1') (.slice A2' B'.ss.length c2')) :: (k1' ++ k2')) s⟩
        have hk1 : c.k = 1 := Decidable.of_not_not h6
        have hkd := hkd h0 hk1
        obtain ⟨o, sd, hfv⟩ := fndV_form (fnd c.id B'.bs B'.ss)
        refine .seq ((.region (.v (.move rfl) (.v (.move rfl) (.v (.move rfl) (.v (.indexAddr rfl rfl (by omega) (by omega)) (.v (.fieldAddr rfl) (.v (.load (v := .int .u64 c.id) rfl (At.cell_ (hat _ _ (by simp [bl])) 1 rfl)) ?_))))))))
        refine .pc (v := .tuple ⟨[.agg ⟨o.cells⟩, .int .i64 sd, .bool (fnd c.id B'.bs B'.ss).isSome]⟩) rfl rfl (fun w s => by rw [← hfv]; exact Find_ok w b B'.cap B'.meet B'.high B'.seq c.id A1' A2' c1' c2' B'.bs B'.ss (Rd.chunk s (T := 67) (l := Bc B' (.slice A1' B'.bs.length c1') (.slice A2' B'.ss.length c2')) (by simp) (fun j v hv => by rw [Nat.zero_add]; exact hv)) (OwnS.rd h1' s (no := []) (fun p hp => by simp [hp]) (by simp)) (OwnS.rd h2' s (no := []) (fun p hp => by simp [hp]) (by simp)) (by omega) (by omega)) ?_
        obtain ⟨kg, kf, kp⟩ := hkd
        have hgoes : c.ty = 2 ∨ c.ty = 3 ∨ c.ty = 4 → (fnd c.id B'.bs B'.ss).isSome = false := fun h => by rw [kg h]; rfl
        generalize (fnd c.id B'.bs B'.ss).isSome = rr at *
        refine .v (.move rfl) (.v (.extract rfl rfl) (.v (.extract rfl rfl) (.v (.extract rfl rfl) (.nw .alloc fun b11 => (.st (.sw rfl rfl) (.v (.assign rfl) (.v (.assign rfl) (.nil ?_))))))))
        refine .heap (hs' := (Tb b (Bc B' (.slice A1' B'.bs.length c1') (.slice A2' B'.ss.length c2')) :: (k1' ++ k2')) ++ [(be, Ch.cells le 50)]) (fun _ s => Sat.take (pre := (Tb b (Bc B' (.slice A1' B'.bs.length c1') (.slice A2' B'.ss.length c2')) :: (k1' ++ k2')) ++ [(be, Ch.cells le 50)]) s) ?_
        refine .seq ((.region (.v (.assign rfl) (.nil ?_))))
        refine .seq (.seq ((.region (.v (.assign rfl) (.nil ?_)))))
        refine .block (.loop (X := Nat) (fun j => [(1, .slice (some ⟨ba, oa, none⟩) len cap), (5, .pointer (some ⟨b, 0, none⟩)), (7, .int .i64 i), (9, .slice (some ⟨be, oe, none⟩) evs.length c'), (13, .bool rr), (14, .int .u64 (tsum (evs.take j))), (15, .int .i64 j)]) (fun _ => (Tb b (Bc B' (.slice A1' B'.bs.length c1') (.slice A2' B'.ss.length c2')) :: (k1' ++ k2')) ++ [(be, Ch.cells le 50)])
          (fun j => j ≤ evs.length) (fun j => evs.length - j) 0 (Nat.zero_le _) (.cons rfl (.cons rfl (.cons rfl (.cons rfl (.cons rfl (.cons rfl (.cons rfl (.nil _)))))))) (fun _ s => s) ?_)
        intro j hj
        refine .seq (.seq ((.region (.v (.move rfl) (.v (.move rfl) (.v (.len rfl) (.v (.lss rfl rfl) (.nil ?_))))))))
        refine .cond_dec rfl (fun h7 => .skip ?_) (fun h7 => .exit ?_)
        · have hjl : j < evs.length := by omega
          have htk := tsum_take hjl
          have hld := fun k => hld j k hjl
          generalize evs[j] = e at htk hld
          refine .mid (X := Unit) (fun _ => [(1, .slice (some ⟨ba, oa, none⟩) len cap), (5, .pointer (some ⟨b, 0, none⟩)), (7, .int .i64 i), (9, .slice (some ⟨be, oe, none⟩) evs.length c'), (13, .bool rr), (14, .int .u64 (tsum (evs.take (j + 1)))), (15, .int .i64 j)]) (fun _ => (Tb b (Bc B' (.slice A1' B'.bs.length c1') (.slice A2' B'.ss.length c2')) :: (k1' ++ k2')) ++ [(be, Ch.cells le 50)])
            (fun _ => True) (.block (.seq ((.region (.v (.move rfl) (.v (.move rfl) (.v (.indexAddr rfl rfl (by omega) (by omega)) (.v (.fieldAddr rfl) (.v (.load (v := .int .i64 e.kind) rfl (hld 1 _ _ _ (fun p hp => by simp at hp ⊢; simp [hp]) (by omega) rfl)) (.v (.eqi rfl rfl) (.nil ?_))))))))))) ?_
          · refine .cond_dec rfl (fun h8 => ?_) (fun h8 => .skip ?_)
            · rw [if_pos h8] at htk
              refine .region (.v (.move rfl) (.v (.move rfl) (.v (.move rfl) (.v (.indexAddr rfl rfl (by omega) (by omega)) (.v (.fieldAddr rfl) (.v (.load (v := .int .u64 e.q) rfl (hld 9 _ _ _ (fun p hp => by simp at hp ⊢; simp [hp]) (by omega) rfl)) (.v (.add rfl rfl) (.v (.assign rfl) (.nil ?_)))))))))
              rw [← htk]
              exact ⟨(), trivial, .cons rfl (.cons rfl (.cons rfl (.cons rfl (.cons rfl (.cons rfl (.cons rfl (.nil _))))))), fun _ s => s⟩
            · rw [if_neg h8] at htk
              rw [htk]
              exact ⟨(), trivial, .cons rfl (.cons rfl (.cons rfl (.cons rfl (.cons rfl (.cons rfl (.cons rfl (.nil _))))))), fun _ s => s⟩
          · rintro ⟨⟩ -
            refine .region (.v (.move rfl) (.v (.addi rfl rfl (by omega)) (.v (.assign rfl) (.nil ?_))))
            exact ⟨j + 1, by omega, by omega, .cons rfl (.cons rfl (.cons rfl (.cons rfl (.cons rfl (.cons rfl (.cons rfl (.nil _))))))), fun _ s => s⟩
        · have htake : evs.take j = evs := List.take_of_length_le (by omega)
          rw [htake]
          refine .seq ((.region (.v (.move rfl) (.v (.move rfl) (.v (.indexAddr rfl rfl (by omega) (by omega)) (.v (.fieldAddr rfl) (.v (.load (v := .int .i64 c.ty) rfl (At.cell_ (hat _ _ (by simp [bl])) 5 rfl)) (.nil ?_))))))))
          refine .block (.seq (.seq ((.region (.v (.eqi rfl rfl) (.v (.assign rfl) (.nil ?_)))))))
          have hrest : ∀ hrr : c.ty = 2 ∨ c.ty = 3, rr = false := fun h => hgoes (by omega)
          refine .cond_dec rfl (fun h9 => .skip ?_) (fun h9 => ?_)
          · refine .cond_dec rfl (fun h10 => ?_) (fun h10 => absurd h9 h10)
            obtain rfl := hrest (.inl h9)
            refine .seq ((.region (.v (.move rfl) (.nil ?_))))
            refine .cond rfl (fun h => absurd h (by simp)) (fun _ => .skip ?_)
            exact ⟨⟨i, B', _, _, k1', k2'⟩, ⟨rfl, rfl, h1', h2'⟩, .cons rfl (.cons rfl (.cons rfl (.nil _))), fun _ s => Sat.take (pre := Tb b (Bc B' (.slice A1' B'.bs.length c1') (.slice A2' B'.ss.length c2')) :: (k1' ++ k2')) s⟩
          · refine .region (.v (.eqi rfl rfl) (.v (.assign rfl) (.nil ?_)))
            refine .cond_dec rfl (fun h16 => ?_) (fun h16 => ?_)
            · obtain rfl := hrest (.inr h16)
              refine .seq ((.region (.v (.move rfl) (.nil ?_))))
              refine .cond rfl (fun h => absurd h (by simp)) (fun _ => .skip ?_)
              exact ⟨⟨i, B', _, _, k1', k2'⟩, ⟨rfl, rfl, h1', h2'⟩, .cons rfl (.cons rfl (.cons rfl (.nil _))), fun _ s => Sat.take (pre := Tb b (Bc B' (.slice A1' B'.bs.length c1') (.slice A2' B'.ss.length c2')) :: (k1' ++ k2')) s⟩
            · refine .seq ((.region (.v (.eqi rfl rfl) (.v (.assign rfl) (.nil ?_)))))
              refine .cond_dec rfl (fun h18 => ?_) (fun h18 => ?_)
              · obtain rfl := hgoes (.inr (.inr h18))
                have hkf := kf h18
                refine .seq ((.region (.v (.move rfl) (.v (.move rfl) (.or 120 131 11 4 rfl rfl (fun g7 => .v (.move rfl) (.v (.nei rfl rfl) (.v (.move rfl) (.and 123 130 7 7 rfl rfl (fun g8 => .v (.move rfl) (.v (.move rfl) (.v (.move rfl) (.v (.indexAddr rfl rfl (by omega) (by omega)) (.v (.fieldAddr rfl) (.v (.load (v := .int .u64 c.q) rfl (At.cell_ (hat _ _ (by simp [bl])) 7 rfl)) (.v (.nei rfl rfl) (.nil ⟨rfl, rfl, rfl, rfl⟩)))))))) (.nil ⟨rfl, rfl, rfl, rfl⟩))))) (.nil ?_))))))
                refine .cond rfl (fun h => ?_) (fun _ => .skip ?_)
                · exfalso
                  simp at h
                  omega
                exact ⟨⟨i, B', _, _, k1', k2'⟩, ⟨rfl, rfl, h1', h2'⟩, .cons rfl (.cons rfl (.cons rfl (.nil _))), fun _ s => Sat.take (pre := Tb b (Bc B' (.slice A1' B'.bs.length c1') (.slice A2' B'.ss.length c2')) :: (k1' ++ k2')) s⟩
              · refine .seq ((.region (.v (.eqi rfl rfl) (.v (.assign rfl) (.nil ?_)))))
                refine .cond_dec rfl (fun h20 => ?_) (fun h20 => .skip ?_)
                · obtain ⟨rfl, hs0⟩ := kp h20
                  rw [hs0]
                  refine .seq ((.region (.v (.move rfl) (.v (.not rfl) (.v (.move rfl) (.or 137 139 2 2 rfl rfl (fun g9 => .v (.move rfl) (.v (.nei rfl rfl) (.nil ⟨rfl, rfl, rfl, rfl⟩))) (.nil ?_)))))))
                  refine .cond rfl (fun h => absurd h (by simp)) (fun _ => .skip ?_)
                  exact ⟨⟨i, B', _, _, k1', k2'⟩, ⟨rfl, rfl, h1', h2'⟩, .cons rfl (.cons rfl (.cons rfl (.nil _))), fun _ s => Sat.take (pre := Tb b (Bc B' (.slice A1' B'.bs.length c1') (.slice A2' B'.ss.length c2')) :: (k1' ++ k2')) s⟩
                · exact ⟨⟨i, B', _, _, k1', k2'⟩, ⟨rfl, rfl, h1', h2'⟩, .cons rfl (.cons rfl (.cons rfl (.nil _))), fun _ s => Sat.take (pre := Tb b (Bc B' (.slice A1' B'.bs.length c1') (.slice A2' B'.ss.length c2')) :: (k1' ++ k2')) s⟩
      · have hno := hno h0
        obtain ⟨rfl, rfl⟩ : B' = B.num (nx B.seq) ∧ evs = [(evReject (if c.k = 2 then 0 else c.id) (if c.k = 1 then 0 else c.tg) (B.why c)).num (nx B.seq)] := ⟨congrArg Prod.fst hno, congrArg Prod.snd hno⟩
        generalize hge : (evReject (if c.k = 2 then 0 else c.id) (if c.k = 1 then 0 else c.tg) (B.why c)).num (nx B.seq) = ev at *
        have hgk : ev.kind = 2 := by subst hge; rfl
        have hgc : ev.code = B.why c := by subst hge; rfl
        refine .cond_dec rfl (fun h4 => ?_) (fun h4 => absurd hgk h4)
        refine .seq ((.region (.v (.move rfl) ?_)))
        refine .ef (.call0 rfl rfl fun w s => Book_ok w b B.cap B.meet B.high (nx B.seq) A1' A2' c1' c2' B.bs B.ss (Rd.chunk s (T := 67) (l := Bc (B.num (nx B.seq)) (.slice A1' B.bs.length c1') (.slice A2' B.ss.length c2')) (by simp) (fun j v hv => by rw [Nat.zero_add]; exact hv)) (OwnS.rd h1' s (no := []) (fun p hp => by simp [hp]) (by simp)) (OwnS.rd h2' s (no := []) (fun p hp => by simp [hp]) (by simp)) (by omega) (by omega)) ?_
        rintro _ _ ⟨_, ⟨F1, F2, x1, x2, y1, y2, rfl, rfl, of1, of2⟩, rfl⟩
        refine .nw .alloc fun b10 => (.st (.sw rfl rfl) (.nil ?_))
        refine .seq ((.region (.v (.fieldAddr rfl) (.v (.load (v := .int .u64 B.seq) rfl (.one rfl)) (.v (.add rfl rfl) (.v (.fieldAddr rfl) (.st (.storeL rfl rfl rfl) (.nil ?_))))))))
        refine .seq (.seq ((.region (.v (.move rfl) (.v (.len rfl) (.v (.nei rfl rfl) (.v (.move rfl) (.or (b2 := decide (B.why c = 0)) 59 64 5 5 rfl rfl (fun g2 => .v (.move rfl) (.v (.indexAddr rfl rfl (by omega) (by omega)) (.v (.fieldAddr rfl) (.v (.load (v := .int .i64 (B.why c)) rfl (hld 0 12 hne _ _ _ (fun p hp => by simp at hp ⊢; simp [hp]) (by omega) (by rw [← hgc]; rfl))) (.v (.eqi rfl rfl) (.nil ⟨rfl, rfl, rfl, rfl⟩)))))) (.v (.move rfl) (.or 66 70 4 4 rfl rfl (fun g3 => .v (.loadA (vs := bcells B.cap B.meet (.slice E1 B.bs.length d1) (.slice E2 B.ss.length d2) B.high (nx B.seq)) rfl .whole rfl) (.v (.loadA (vs := bcells B.cap B.meet (.slice F1 B.bs.length x1) (.slice F2 B.ss.length x2) B.high (nx B.seq)) rfl .whole rfl) (.pc rfl rfl (fun w s => books_ok w B.cap B.meet B.high (nx B.seq) E1 E2 F1 F2 d1 d2 x1 x2 B.bs B.ss (OwnS.rd oe1 s (no := []) (fun p hp => by simp [hp]) (by simp)) (OwnS.rd oe2 s (no := []) (fun p hp => by simp [hp]) (by simp)) (OwnS.rd of1 s (no := []) (fun p hp => by simp [hp]) (by simp)) (OwnS.rd of2 s (no := []) (fun p hp => by simp [hp]) (by simp)) (by omega) (by omega)) (.v (.not rfl) (.nil ⟨rfl, rfl, rfl, rfl⟩))))) (.nil ?_)))))))))))
        refine .cond rfl (fun h => ?_) (fun _ => .skip ?_)
        · exfalso
          simp [h0] at h
        refine .exit ?_
        exact ⟨⟨i, B.num (nx B.seq), _, _, k1', k2'⟩, ⟨rfl, rfl, h1', h2'⟩, .cons rfl (.cons rfl (.cons rfl (.nil _))), fun _ s => Sat.take (pre := Tb b (Bc (B.num (nx B.seq)) (.slice A1' (B.num (nx B.seq)).bs.length c1') (.slice A2' (B.num (nx B.seq)).ss.length c2')) :: (k1' ++ k2')) s⟩
    · rintro ⟨i', B', v1', v2', k1', k2'⟩ ⟨hii, hB, h1', h2'⟩
      dsimp only at hii hB h1' h2'
      subst hii
      refine .region (.v (.move rfl) (.v (.addi rfl rfl (by omega)) (.v (.assign rfl) (.nil ?_))))
      subst hB
      exact ⟨⟨i' + 1, (B.does c).1, _, _, k1', k2'⟩, ⟨by dsimp only; omega, hI', hcap', h1', h2'⟩, by dsimp only; omega, .cons rfl (.cons rfl (.cons rfl (.nil _))), fun _ s => s⟩
  · refine .seq ((.region (.v (.assign rfl) (.nil ?_))))
    exact .ret ⟨[_], ⟨rfl, trivial⟩, rfl⟩
end Go.Proofs.Ytmfobfamdaajmaa

/- Plain: an FOK looks ahead as an IOC goes. -/
namespace Go.Proofs.Ytmfobfamdaajmaa
open Go.V
set_option linter.unusedVariables false
set_option linter.unusedSimpArgs false

/-- a command as a New of a kind -/
def Cm.kd (c : Cm) (ty : Int) : Cm := ⟨1, c.id, c.tg, c.mb, c.sd, ty, c.pr, c.q, c.pk⟩
theorem kd_why {B : Bk} {c : Cm} : B.why (c.kd 4) = B.why (c.kd 3) := by
  have e1 : (c.kd 4).chk = (c.kd 3).chk := by
    unfold Cm.kd Cm.chk chk szd; simp
  have e2 : B.tgt (c.kd 4) = B.tgt (c.kd 3) := rfl
  have e3 : B.at_ (c.kd 4) = B.at_ (c.kd 3) := rfl
  have f1 : ∀ x : Int, (c.kd x).k = 1 := fun _ => rfl
  have f2 : ∀ x : Int, (newTk (c.kd x)).kind = x := fun _ => rfl
  have f3 : ∀ x : Int, (c.kd x).id = c.id := fun _ => rfl
  unfold Bk.why rfs
  rw [cmg_new _ _ (f1 4), cmg_new _ _ (f1 3), e1, e2, f2, f2, f1, f1, f3, f3]
  simp
structure WholeOk (q : Int) (x y : List Ev) : Prop where
  ok : ∃ xe xr ye yr, x = xe :: xr ∧ y = ye :: yr ∧ xe.kind = ye.kind ∧ xe.code = ye.code ∧ (ye.kind = 2 ∨ ye.kind ≠ 2 ∧ (tsum y ≠ q ∧ (∃ e, xr = [e] ∧ e.kind = 4 ∧ e.q = q ∧ e.reason = 4) ∨ tsum y = q ∧ xr = yr))
theorem does_whole {B : Bk} {c : Cm} (h : B.Vl) (hw : c.wf) : WholeOk c.q (B.does (c.kd 4)).2 (B.does (c.kd 3)).2 := by
  by_cases h0 : B.why (c.kd 3) = 0
  case neg =>
    rw [does_no h0, does_no (B := B) (c := c.kd 4) (by rw [kd_why]; exact h0), kd_why]
    exact ⟨_, _, _, _, rfl, rfl, rfl, rfl, .inl rfl⟩
  have h0' : B.why (c.kd 4) = 0 := by rw [kd_why]; exact h0
  rw [does_new h0 rfl, does_new h0' rfl]
  have hw3 : (c.kd 3).wf := hw
  obtain ⟨z1, z2, z3, z4, z5⟩ := rfs_zero h0
  obtain ⟨s1, s2, s3, s4, s5, s6, s7, s8⟩ := chk_sized z2 (by show (1 : Int) ≠ 2; decide) hw3
  obtain ⟨hV, hlt⟩ := cmg_V h hw3 h0 (by show (1 : Int) ≠ 2; decide)
  have hg : B.goes (c.kd 3) = B := by unfold Bk.goes; rw [if_neg (by show ¬ (1 : Int) ≠ 1; simp)]
  rw [hg, cmg_new _ _ rfl] at hV
  rw [cmg_new _ _ rfl] at hlt
  have hB0 : ((B.num (nx B.seq)).top c.id).Vl := top_vl (num_vl _ h) (Int.le_of_lt hlt)
  have hV : (newTk (c.kd 3)).V ((B.num (nx B.seq)).top c.id) := hV
  show WholeOk c.q (Bk.comes ((B.num (nx B.seq)).top c.id) [(evAck (newTk (c.kd 4))).num (nx B.seq)] (newTk (c.kd 4))).2 (Bk.comes ((B.num (nx B.seq)).top c.id) [(evAck (newTk (c.kd 3))).num (nx B.seq)] (newTk (c.kd 3))).2
  generalize (B.num (nx B.seq)).top c.id = B0 at *
  have ha4 : ((evAck (newTk (c.kd 4))).num (nx B.seq)).kind = 1 := rfl
  have ha3 : ((evAck (newTk (c.kd 3))).num (nx B.seq)).kind = 1 := rfl
  have hc4 : ((evAck (newTk (c.kd 4))).num (nx B.seq)).code = 0 := rfl
  have hc3 : ((evAck (newTk (c.kd 3))).num (nx B.seq)).code = 0 := rfl
  generalize (evAck (newTk (c.kd 4))).num (nx B.seq) = a4 at *
  generalize (evAck (newTk (c.kd 3))).num (nx B.seq) = a3 at *
  have hOk0 := ts_ok' (evs := []) hB0 hV
  have hrun0 := tr_run (meet := B0.meet) (t := newTk (c.kd 3)) hOk0
  have e0 : B0.ts [] (newTk (c.kd 4)) = B0.ts [] (newTk (c.kd 3)) := rfl
  have e4 : B0.ts [a4] (newTk (c.kd 4)) = (B0.ts [] (newTk (c.kd 3))).pre [a4] := rfl
  have e3 : B0.ts [a3] (newTk (c.kd 3)) = (B0.ts [] (newTk (c.kd 3))).pre [a3] := rfl
  have hk : tr B0.meet (newTk (c.kd 4)) (B0.ts [] (newTk (c.kd 3))) = tr B0.meet (newTk (c.kd 3)) (B0.ts [] (newTk (c.kd 3))) :=
    ((hrun0.kind (t2 := newTk (c.kd 4)) rfl rfl rfl rfl (by show (3 : Int) = 2 ↔ (4 : Int) = 2; decide)).eq hOk0).symm
  obtain ⟨y1, y2⟩ := hrun0.sum hOk0 (by show 0 ≤ tsum []; decide) (by show c.q + tsum [] ≤ _; rw [tsum_nil]; have : c.q ≤ 4294967295 := s2; omega)
  obtain ⟨zok, zlen, _, zl⟩ := hrun0.ok hOk0
  have hq : (B0.ts [] (newTk (c.kd 3))).left + tsum (B0.ts [] (newTk (c.kd 3))).evs = c.q := by show c.q + tsum [] = c.q; rw [tsum_nil]; omega
  rw [hq] at y2
  have hlo := zok.lo
  unfold Bk.comes
  rw [e0, e4, e3, tr_pre _ hOk0, tr_pre _ hOk0, hk]
  generalize tr B0.meet (newTk (c.kd 3)) (B0.ts [] (newTk (c.kd 3))) = z at *
  have hq4 : (newTk (c.kd 4)).left = c.q := rfl
  have k4 : (newTk (c.kd 4)).kind = 4 := rfl
  have k3 : (newTk (c.kd 3)).kind = 3 := rfl
  simp only [k4, k3, hq4]
  rw [if_neg (show ¬ ((3 : Int) = 4 ∧ tsum z.evs ≠ (newTk (c.kd 3)).left) from fun e => by have := e.1; omega)]
  by_cases hs : tsum z.evs = c.q
  · have hl : z.left = 0 := by omega
    have hl' : ∀ p, (z.pre p).left = 0 := fun p => hl
    rw [if_neg (fun e => e.2 hs), if_pos (hl' _), if_pos (hl' _)]
    refine ⟨a4, z.evs, a3, z.evs, rfl, rfl, by omega, by omega, .inr ⟨by omega, .inr ⟨?_, rfl⟩⟩⟩
    show tsum (a3 :: z.evs) = c.q
    rw [tsum_cons _ (by omega)]; exact hs
  · rw [if_pos ⟨trivial, hs⟩]
    split
    · refine ⟨a4, _, a3, z.evs, rfl, rfl, by omega, by omega, .inr ⟨by omega, .inl ⟨?_, _, rfl, rfl, rfl, rfl⟩⟩⟩
      show tsum (a3 :: z.evs) ≠ c.q
      rw [tsum_cons _ (by omega)]; exact hs
    · rw [if_pos (by omega)]
      refine ⟨a4, _, a3, _, rfl, rfl, by omega, by omega, .inr ⟨by omega, .inl ⟨?_, _, rfl, rfl, rfl, rfl⟩⟩⟩
      rw [tsum_snoc, if_neg (by show ¬ (4 : Int) = 3; decide)]
      show tsum (a3 :: z.evs) ≠ c.q
      rw [tsum_cons _ (by omega)]; exact hs
end Go.Proofs.Ytmfobfamdaajmaa

/- The law RulesWhole: its walk. -/
namespace Go.Proofs.Ytmfobfamdaajmaa
open Go.V
set_option linter.unusedVariables false
set_option linter.unusedSimpArgs false

theorem Rd.tail {w : World} {no : List Nat} {b o c m : Nat} {e vs : List Value} (h : Rd w no (some ⟨b, o, none⟩) (e ++ vs)) (he : e.length = m) (hc : vs ≠ [] → 1 < c) : Rd w no (cutA (some ⟨b, o, none⟩) c 1 m) vs := by
  intro j v hv
  have hc := hc (fun e => by subst e; simp at hv)
  obtain ⟨b', o', h1, h2, h3⟩ := h (m + j) v (by rw [List.getElem?_append_right (by omega)]; rw [← hv]; congr 1; omega)
  cases h1
  refine ⟨b, o + 1 * m, cutA_some hc, h2, ?_⟩
  rw [Nat.one_mul, Nat.add_assoc]; exact h3
theorem Sat.apart {w0 w : World} {own : List Nat} {b : Nat} {c : Ch} {q hs fr : Hp} (s : Sat w0 own hs w) [TakeI ((b, c) :: q) hs fr] : ∀ x ∈ bl q, x ∉ [b] := fun x hx hm => by
  simp at hm; subst hm
  exact (Sat.take (pre := (x, c) :: q) s).not_in (fun _ h => h) hx
def ccl (k id tg mb sd ty pr q pk : Int) : List Value := [.int .i64 k, .int .u64 id, .int .u64 tg, .int .u32 mb, .int .i64 sd, .int .i64 ty, .int .i64 pr, .int .u64 q, .int .u64 pk]
set_option maxRecDepth 10000 in
theorem RulesWhole_ok (w : World) (cc cm : Int) (A : Option Addr) (len cap : Nat) (l : List Cm) (o : Cm) (hl : len = l.length) (hA : Rd w [] A (crows l)) (hb : len ≤ 4503599627370496) (hw : ∀ c ∈ l, c.wf) (hwo : o.wf) :
    Is Try.prog 10 [.agg ⟨[.int .i64 cc, .int .i64 cm]⟩, .slice A len cap, .agg ⟨o.cells⟩] w (.bool true) := by
  refine Does.pure (Does.of (n := 152) Try.func10 rfl rfl rfl rfl ?_)
  refine .seq ((.region (.nw (.box rfl rfl) fun b3 => (.nw (.box rfl rfl) fun b5 => (.v (.assign rfl) (.nil ?_))))))
  refine .seq ((.region (.v (.loadA (vs := [.int .i64 cc, .int .i64 cm]) rfl .whole rfl) ?_)))
  refine .ef (.call0 rfl rfl fun w s => begun_ok w cc cm) ?_
  rintro _ _ ⟨_, hN, rfl⟩
  by_cases hc : Cfg cc cm
  case neg =>
    rw [if_neg hc] at hN
    obtain ⟨rfl, rfl⟩ := hN
    refine .v (.move rfl) (.v (.extract rfl rfl) (.v (.extract rfl rfl) (.v (.assign rfl) (.v (.assign rfl) (.nil ?_)))))
    refine .seq (.seq ((.region (.v (.move rfl) (.v (.eql_ptr_nil rfl rfl) (.v (.move rfl) (.or (b2 := false) 23 25 2 2 rfl rfl (fun g1 => absurd g1 (by simp)) (.nil ?_))))))))
    refine .cond rfl (fun _ => ?_) (fun h => absurd h (by simp))
    refine .seq ((.region (.v (.move rfl) (.v (.assign rfl) (.nil ?_)))))
    exact .ret ⟨[_], ⟨rfl, trivial⟩, rfl⟩
  rw [if_pos hc] at hN
  obtain ⟨b, rfl, rfl⟩ := hN
  refine .v (.move rfl) (.v (.extract rfl rfl) (.v (.extract rfl rfl) (.v (.assign rfl) (.v (.assign rfl) (.nil ?_)))))
  refine .seq (.seq ((.region (.v (.move rfl) (.v (.eql_ptr_nil rfl rfl) (.v (.move rfl) (.or 23 25 2 2 rfl rfl (fun g1 => .v (.move rfl) (.v (.not rfl) (.nil ⟨rfl, rfl, rfl, rfl⟩))) (.nil ?_))))))))
  refine .cond rfl (fun h => absurd h (by simp)) (fun _ => .skip ?_)
  obtain ⟨k0, id, tg, mb, sd, ty0, pr, q, pk⟩ := o
  refine .heap (hs' := Bx b3 cc cm :: ((b5, .cells [.int .i64 k0, .int .u64 id, .int .u64 tg, .int .u32 mb, .int .i64 sd, .int .i64 ty0, .int .i64 pr, .int .u64 q, .int .u64 pk] 25) :: Tb b (Bc (newB cc cm) (.slice none 0 0) (.slice none 0 0)) :: ([] ++ []))) (fun _ s => Sat.take (pre := Bx b3 cc cm :: ((b5, .cells (Cm.cells ⟨k0, id, tg, mb, sd, ty0, pr, q, pk⟩) 25) :: Tb b (Bc (newB cc cm) (.slice none 0 0) (.slice none 0 0)) :: ([] ++ []))) s) ?_
  refine .seq (.seq ((.region (.v (.assign rfl) (.nil ?_)))))
  refine .block (.loop (X := BS) (fun x => [(1, .slice A len cap), (3, .pointer (some ⟨b3, 0, none⟩)), (5, .pointer (some ⟨b5, 0, none⟩)), (7, .pointer (some ⟨b, 0, none⟩)), (9, .int .i64 x.i)]) (fun x => Bx b3 cc cm :: ((b5, .cells [.int .i64 k0, .int .u64 id, .int .u64 tg, .int .u32 mb, .int .i64 sd, .int .i64 ty0, .int .i64 pr, .int .u64 q, .int .u64 pk] 25) :: x.H b)) (fun x => x.V len cc) (fun x => len - x.i)
    ⟨0, newB cc cm, .slice none 0 0, .slice none 0 0, [], []⟩ ⟨by simp, newB_vl hc, rfl, OwnS.nil _ _, OwnS.nil _ _⟩ (.cons rfl (.cons rfl (.cons rfl (.cons rfl (.cons rfl (.nil _)))))) (fun _ s => s) ?_)
  rintro ⟨i, B, v1, v2, k1, k2⟩ ⟨hi, hI, hcap0, h1, h2⟩
  dsimp only at hi hI hcap0 h1 h2 ⊢
  refine .seq (.seq ((.region (.v (.move rfl) (.v (.move rfl) (.v (.len rfl) (.v (.lss rfl rfl) (.nil ?_))))))))
  refine .cond_dec rfl (fun g2 => .skip ?_) (fun g2 => .exit ?_)
  · have hil : i < l.length := by omega
    obtain ⟨ba, oa, rfl, hat⟩ := Rd.cm hA (by omega)
    have hcw := hw _ (List.getElem_mem hil)
    have hat := hat i hil
    generalize l[i] = c at hat hcw
    have hI' := does_vl hI hcw
    have hcap' := (does_cap B c).1.trans hcap0
    refine .seq (.block ((.region (.v (.move rfl) (.v (.move rfl) (.v (.move rfl) (.v (.indexAddr rfl rfl (by omega) (by omega)) (.v (.loadA (vs := c.cells) rfl (hat _ _ (by simp [bl])) rfl) ?_))))))))
    refine .ef (.callT (Tb b (Bc B v1 v2) :: (k1 ++ k2)) rfl rfl (fun w s => Does.call_Do w b B hI.inv.ok c hcw.2.1 hcw.2.2 v1 v2 k1 k2 h1 h2)) ?_
    generalize B.does c = D at hI' hcap'
    obtain ⟨B', evs⟩ := D
    rintro _ _ ⟨_, ⟨A', c', v1', v2', k1', k2', ke, rfl, rfl, h1', h2', hE⟩, rfl⟩
    dsimp only at hI' hcap' h1' h2' hE ⊢
    refine .nil ?_
    refine .region (.v (.move rfl) (.v (.addi rfl rfl (by omega)) (.v (.assign rfl) (.nil ?_))))
    exact ⟨⟨i + 1, B', _, _, k1', k2'⟩, ⟨by dsimp only; omega, hI', hcap', h1', h2'⟩, by dsimp only; omega, .cons rfl (.cons rfl (.cons rfl (.cons rfl (.cons rfl (.nil _))))), fun _ s => Sat.take (pre := Bx b3 cc cm :: ((b5, .cells [.int .i64 k0, .int .u64 id, .int .u64 tg, .int .u32 mb, .int .i64 sd, .int .i64 ty0, .int .i64 pr, .int .u64 q, .int .u64 pk] 25) :: Tb b (Bc B' v1' v2') :: (k1' ++ k2'))) s⟩
  · obtain ⟨A1, c1, rfl⟩ := OwnS.sl h1
    obtain ⟨A2, c2, rfl⟩ := OwnS.sl h2
    have hlen := hI.len
    have hcapb := hI.inv.hi
    refine .seq ((.region (.v (.loadA (vs := [.int .i64 cc, .int .i64 cm]) rfl .whole rfl) ?_)))
    refine .ef (.call0 rfl rfl fun w s => New_ok w cc cm) ?_
    rintro _ _ ⟨_, hN, rfl⟩
    rw [if_pos hc] at hN
    obtain ⟨bq, rfl, rfl⟩ := hN
    refine .v (.move rfl) (.v (.extract rfl rfl) (.v (.extract rfl rfl) (.v (.assign rfl) (.v (.assign rfl) (.nil ?_)))))
    refine .heap (hs' := Tb bq [.int .i64 cc, .int .i64 cm, .slice none 0 0, .slice none 0 0, .int .u64 0, .int .u64 0] :: (Bx b3 cc cm :: ((b5, .cells [.int .i64 k0, .int .u64 id, .int .u64 tg, .int .u32 mb, .int .i64 sd, .int .i64 ty0, .int .i64 pr, .int .u64 q, .int .u64 pk] 25) :: Tb b (Bc B (.slice A1 B.bs.length c1) (.slice A2 B.ss.length c2)) :: (k1 ++ k2)))) (fun _ s => s) ?_
    refine .seq (.seq ((.region (.v (.move rfl) (.v (.eql_ptr_nil rfl rfl) (.v (.move rfl) (.v (.move rfl) (.v (.move rfl) ?_))))))))
    refine .ef (.call0 rfl rfl fun w s => Book_ok w b B.cap B.meet B.high B.seq A1 A2 c1 c2 B.bs B.ss (Rd.chunk s (T := 67) (l := Bc B (.slice A1 B.bs.length c1) (.slice A2 B.ss.length c2)) (by simp) (fun j v hv => by rw [Nat.zero_add]; exact hv)) (OwnS.rd h1 s (no := []) (fun p hp => by simp [hp]) (by simp)) (OwnS.rd h2 s (no := []) (fun p hp => by simp [hp]) (by simp)) (by omega) (by omega)) ?_
    rintro _ _ ⟨_, ⟨E1, E2, d1, d2, q1, q2, rfl, rfl, oe1, oe2⟩, rfl⟩
    refine .ef (.callT [Tb bq [.int .i64 cc, .int .i64 cm, .slice none 0 0, .slice none 0 0, .int .u64 0, .int .u64 0]] rfl rfl (fun w s => Load_ok w bq _ _ _ _ _ _ B.cap B.meet B.high B.seq E1 E2 d1 d2 B.bs B.ss (OwnS.rd oe1 s (fun p hp => by simp [hp]) (Sat.apart (c := .cells [.int .i64 cc, .int .i64 cm, .slice none 0 0, .slice none 0 0, .int .u64 0, .int .u64 0] 67) s)) (OwnS.rd oe2 s (fun p hp => by simp [hp]) (Sat.apart (c := .cells [.int .i64 cc, .int .i64 cm, .slice none 0 0, .slice none 0 0, .int .u64 0, .int .u64 0] 67) s)) (fun o ho => (hI.rests o ho).2) (by omega) (by omega) hI.vld)) ?_
    rintro _ _ ⟨_, ⟨rfl, u1, u2, m1, m2, rfl, hu1, hu2⟩, rfl⟩
    refine .v (.nei rfl rfl) (.v (.pick rfl rfl rfl) (.nil ?_))
    refine .cond rfl (fun h => absurd h (by simp)) (fun _ => .skip ?_)
    refine .seq ((.region (.v (.fieldAddr rfl) (.st (.storeL rfl rfl rfl) (.v (.fieldAddr rfl) (.st (.storeL rfl rfl rfl) (.nil ?_)))))))
    refine .keep (Tb b (Bc B (.slice A1 B.bs.length c1) (.slice A2 B.ss.length c2)) :: (k1 ++ k2) ++ (Tb bq (Bc ⟨B.cap, B.meet, B.bs, B.ss, B.high, B.seq⟩ u1 u2) :: (m1 ++ m2) ++ [(b5, Ch.cells [.int .i64 1, .int .u64 id, .int .u64 tg, .int .u32 mb, .int .i64 sd, .int .i64 4, .int .i64 pr, .int .u64 q, .int .u64 pk] 25)])) ?_
    have hwh := does_whole hI (c := ⟨k0, id, tg, mb, sd, ty0, pr, q, pk⟩) hwo
    have hok4 := does_len hI.inv (c := (⟨k0, id, tg, mb, sd, ty0, pr, q, pk⟩ : Cm).kd 4) hwo
    have hok3 := does_len hI.inv (c := (⟨k0, id, tg, mb, sd, ty0, pr, q, pk⟩ : Cm).kd 3) hwo
    have hB4 := B.does ((⟨k0, id, tg, mb, sd, ty0, pr, q, pk⟩ : Cm).kd 4)
    refine .seq ((.region (.v (.move rfl) (.v (.loadA (vs := ((⟨k0, id, tg, mb, sd, ty0, pr, q, pk⟩ : Cm).kd 4).cells) rfl .whole rfl) ?_))))
    refine .ef (.callT (Tb b (Bc B (.slice A1 B.bs.length c1) (.slice A2 B.ss.length c2)) :: (k1 ++ k2)) rfl rfl (fun w s => Does.call_Do w b B hI.inv.ok ((⟨k0, id, tg, mb, sd, ty0, pr, q, pk⟩ : Cm).kd 4) hwo.2.1 hwo.2.2 _ _ k1 k2 h1 h2)) ?_
    generalize B.does ((⟨k0, id, tg, mb, sd, ty0, pr, q, pk⟩ : Cm).kd 4) = DF at hwh hok4 ⊢
    obtain ⟨BF, x⟩ := DF
    rintro _ _ ⟨_, ⟨AF, cF, vF1, vF2, kF1, kF2, keF, rfl, rfl, -, -, hF⟩, rfl⟩
    dsimp only at hwh hok4 hF ⊢
    refine .v (.assign rfl) (.nil ?_)
    refine .keep (keF ++ (Tb bq (Bc B u1 u2) :: (m1 ++ m2) ++ [(b5, Ch.cells [.int .i64 1, .int .u64 id, .int .u64 tg, .int .u32 mb, .int .i64 sd, .int .i64 4, .int .i64 pr, .int .u64 q, .int .u64 pk] 25)])) ?_
    refine .seq ((.region (.v (.fieldAddr rfl) (.st (.storeL rfl rfl rfl) (.nil ?_)))))
    refine .seq ((.region (.v (.move rfl) (.v (.loadA (vs := ((⟨k0, id, tg, mb, sd, ty0, pr, q, pk⟩ : Cm).kd 3).cells) rfl .whole rfl) ?_))))
    refine .ef (.callT (Tb bq (Bc B u1 u2) :: (m1 ++ m2)) rfl rfl (fun w s => Does.call_Do w bq B hI.inv.ok ((⟨k0, id, tg, mb, sd, ty0, pr, q, pk⟩ : Cm).kd 3) hwo.2.1 hwo.2.2 _ _ m1 m2 hu1 hu2)) ?_
    generalize B.does ((⟨k0, id, tg, mb, sd, ty0, pr, q, pk⟩ : Cm).kd 3) = DI at hwh hok3 ⊢
    obtain ⟨BI, y⟩ := DI
    rintro _ _ ⟨_, ⟨AI, cI, vI1, vI2, kI1, kI2, keI, rfl, rfl, -, -, hI3⟩, rfl⟩
    dsimp only at hwh hok3 hI3 ⊢
    refine .v (.assign rfl) (.nil ?_)
    refine .keep (keF ++ keI ++ [(b5, Ch.cells [.int .i64 1, .int .u64 id, .int .u64 tg, .int .u32 mb, .int .i64 sd, .int .i64 3, .int .i64 pr, .int .u64 q, .int .u64 pk] 25)]) ?_
    obtain ⟨xe, xr, ye, yr, rfl, rfl, hk, hcd, hlast⟩ := hwh.ok
    obtain ⟨bx, ox, lx, rfl, -, rfl, hcx, -, -⟩ := hF.some_ (by simp)
    obtain ⟨by_, oy, ly, rfl, -, rfl, hcy, -, -⟩ := hI3.some_ (by simp)
    have hldx : ∀ (j k : Nat) (hj : j < (xe :: xr).length) (v : Value) (own : List Nat) (hs : Hp), [(bx, Ch.cells lx 50)] ⊆ hs → k < 13 → (((xe :: xr)[j]).cells)[k]? = some v → At w own hs ⟨bx, ox + j * 13 + k, none⟩ [v] := fun j k hj v own hs hh hk hv => hF.ld hh hj hk hv
    have hldy : ∀ (j k : Nat) (hj : j < (ye :: yr).length) (v : Value) (own : List Nat) (hs : Hp), [(by_, Ch.cells ly 50)] ⊆ hs → k < 13 → (((ye :: yr)[j]).cells)[k]? = some v → At w own hs ⟨by_, oy + j * 13 + k, none⟩ [v] := fun j k hj v own hs hh hk hv => hI3.ld hh hj hk hv
    have hlx : 0 < (xe :: xr).length := by simp
    have hly : 0 < (ye :: yr).length := by simp
    refine .seq (.seq ((.drawK _ (fun _ h => h) (by kernel_rfl) (by kernel_rfl) ?_)))
    refine .v (fun _ f => .move rfl) (.v (fun _ f => .len rfl) (.v (fun _ f => .eqi rfl rfl) (.v (fun _ f => .move rfl) (.or 66 69 3 3 rfl rfl (fun g3 => .v (fun _ f => .move rfl) (.v (fun _ f => .len rfl) (.v (fun _ f => .eqi rfl rfl) (.nil ⟨rfl, rfl, rfl, rfl⟩)))) (.v (fun _ f => .move rfl) ?_)))))
    refine .or 71 80 9 9 rfl rfl (fun g4 => .v (fun _ f => .move rfl) (.v (fun _ f => .indexAddr rfl rfl (by omega) (by omega)) (.v (fun _ f => .fieldAddr rfl) (.v (fun _ f => .load (v := .int .i64 xe.kind) rfl (hldx 0 1 hlx _ _ _ (fun p hp => f (by simp at hp ⊢; simp [hp])) (by omega) rfl)) (.v (fun _ f => .move rfl) (.v (fun _ f => .indexAddr rfl rfl (by omega) (by omega)) (.v (fun _ f => .fieldAddr rfl) (.v (fun _ f => .load (v := .int .i64 ye.kind) rfl (hldy 0 1 hly _ _ _ (fun p hp => f (by simp at hp ⊢; simp [hp])) (by omega) rfl)) (.v (fun _ f => .nei rfl rfl) (.nil ⟨rfl, rfl, rfl, rfl⟩)))))))))) ?_
    refine .v (fun _ f => .move rfl) (.or 82 91 9 9 rfl rfl (fun g5 => .v (fun _ f => .move rfl) (.v (fun _ f => .indexAddr rfl rfl (by omega) (by omega)) (.v (fun _ f => .fieldAddr rfl) (.v (fun _ f => .load (v := .int .i64 xe.code) rfl (hldx 0 12 hlx _ _ _ (fun p hp => f (by simp at hp ⊢; simp [hp])) (by omega) rfl)) (.v (fun _ f => .move rfl) (.v (fun _ f => .indexAddr rfl rfl (by omega) (by omega)) (.v (fun _ f => .fieldAddr rfl) (.v (fun _ f => .load (v := .int .i64 ye.code) rfl (hldy 0 12 hly _ _ _ (fun p hp => f (by simp at hp ⊢; simp [hp])) (by omega) rfl)) (.v (fun _ f => .nei rfl rfl) (.nil ⟨rfl, rfl, rfl, rfl⟩)))))))))) (.nil ?_))
    refine .cond rfl (fun h => ?_) (fun _ => .skip ?_)
    · exfalso
      simp at h; omega
    refine .seq (.seq ((.region (.v (.move rfl) (.v (.indexAddr rfl rfl (by omega) (by omega)) (.v (.fieldAddr rfl) (.v (.load (v := .int .i64 xe.kind) rfl (hldx 0 1 hlx _ _ _ (fun p hp => by simp at hp ⊢; simp [hp]) (by omega) rfl)) (.v (.eqi rfl rfl) (.nil ?_)))))))))
    refine .cond_dec rfl (fun h5 => ?_) (fun h5 => .skip ?_)
    · refine .seq ((.region (.v (.assign rfl) (.nil ?_))))
      exact .ret ⟨[_], ⟨rfl, trivial⟩, rfl⟩
    refine .seq ((.region (.v (.assign rfl) (.nil ?_))))
    refine .seq (.seq ((.region (.v (.assign rfl) (.nil ?_)))))
    refine .block (.loop (X := Nat) (fun j => [(5, .pointer (some ⟨b5, 0, none⟩)), (12, .slice (some ⟨bx, ox, none⟩) (xe :: xr).length cF), (13, .slice (some ⟨by_, oy, none⟩) (ye :: yr).length cI), (14, .int .u64 (tsum ((ye :: yr).take j))), (15, .int .i64 j)]) (fun _ => [(bx, Ch.cells lx 50)] ++ [(by_, Ch.cells ly 50)] ++ [(b5, Ch.cells [.int .i64 1, .int .u64 id, .int .u64 tg, .int .u32 mb, .int .i64 sd, .int .i64 3, .int .i64 pr, .int .u64 q, .int .u64 pk] 25)])
      (fun j => j ≤ (ye :: yr).length) (fun j => (ye :: yr).length - j) 0 (Nat.zero_le _) (.cons rfl (.cons rfl (.cons rfl (.cons rfl (.cons rfl (.nil _)))))) (fun _ s => s) ?_)
    intro j hj
    refine .seq (.seq ((.region (.v (.move rfl) (.v (.move rfl) (.v (.len rfl) (.v (.lss rfl rfl) (.nil ?_))))))))
    refine .cond_dec rfl (fun h7 => .skip ?_) (fun h7 => .exit ?_)
    · have hjl : j < (ye :: yr).length := by omega
      have htk := tsum_take hjl
      have hld := fun k => hldy j k hjl
      generalize (ye :: yr)[j] = e at htk hld
      refine .mid (X := Unit) (fun _ => [(5, .pointer (some ⟨b5, 0, none⟩)), (12, .slice (some ⟨bx, ox, none⟩) (xe :: xr).length cF), (13, .slice (some ⟨by_, oy, none⟩) (ye :: yr).length cI), (14, .int .u64 (tsum ((ye :: yr).take (j + 1)))), (15, .int .i64 j)]) (fun _ => [(bx, Ch.cells lx 50)] ++ [(by_, Ch.cells ly 50)] ++ [(b5, Ch.cells [.int .i64 1, .int .u64 id, .int .u64 tg, .int .u32 mb, .int .i64 sd, .int .i64 3, .int .i64 pr, .int .u64 q, .int .u64 pk] 25)])
        (fun _ => True) (.block (.seq ((.region (.v (.move rfl) (.v (.move rfl) (.v (.indexAddr rfl rfl (by omega) (by omega)) (.v (.fieldAddr rfl) (.v (.load (v := .int .i64 e.kind) rfl (hld 1 _ _ _ (fun p hp => by simp at hp ⊢; simp [hp]) (by omega) rfl)) (.v (.eqi rfl rfl) (.nil ?_))))))))))) ?_
      · refine .cond_dec rfl (fun h8 => ?_) (fun h8 => .skip ?_)
        · rw [if_pos h8] at htk
          refine .region (.v (.move rfl) (.v (.move rfl) (.v (.move rfl) (.v (.indexAddr rfl rfl (by omega) (by omega)) (.v (.fieldAddr rfl) (.v (.load (v := .int .u64 e.q) rfl (hld 9 _ _ _ (fun p hp => by simp at hp ⊢; simp [hp]) (by omega) rfl)) (.v (.add rfl rfl) (.v (.assign rfl) (.nil ?_)))))))))
          rw [← htk]
          exact ⟨(), trivial, .cons rfl (.cons rfl (.cons rfl (.cons rfl (.cons rfl (.nil _))))), fun _ s => s⟩
        · rw [if_neg h8] at htk
          rw [htk]
          exact ⟨(), trivial, .cons rfl (.cons rfl (.cons rfl (.cons rfl (.cons rfl (.nil _))))), fun _ s => s⟩
      · rintro ⟨⟩ -
        refine .region (.v (.move rfl) (.v (.addi rfl rfl (by omega)) (.v (.assign rfl) (.nil ?_))))
        exact ⟨j + 1, by omega, by omega, .cons rfl (.cons rfl (.cons rfl (.cons rfl (.cons rfl (.nil _))))), fun _ s => s⟩
    · have htake : (ye :: yr).take j = ye :: yr := List.take_of_length_le (by omega)
      rw [htake]
      have hne2 : ye.kind ≠ 2 := by omega
      have hlast : tsum (ye :: yr) ≠ q ∧ (∃ e, xr = [e] ∧ e.kind = 4 ∧ e.q = q ∧ e.reason = 4) ∨ tsum (ye :: yr) = q ∧ xr = yr := by
        rcases hlast with h | h
        · exact absurd h hne2
        · exact h.2
      refine .seq (.seq ((.region (.v (.move rfl) (.v (.fieldAddr rfl) (.v (.load (v := .int .u64 q) rfl (.one rfl)) (.v (.nei rfl rfl) (.nil ?_))))))))
      refine .cond_dec rfl (fun h8 => ?_) (fun h8 => .skip ?_)
      · rcases hlast with ⟨_, e, rfl, e1, e2, e3⟩ | ⟨h, _⟩
        case inr => exact absurd h h8
        refine .seq ((.drawK _ (fun _ h => h) (by kernel_rfl) (by kernel_rfl) ?_))
        refine .v (fun _ f => .move rfl) (.v (fun _ f => .len rfl) (.v (fun _ f => .eqi rfl rfl) (.v (fun _ f => .move rfl) (.and 124 129 5 5 rfl rfl (fun g6 => .v (fun _ f => .move rfl) (.v (fun _ f => .indexAddr rfl rfl (by omega) (by simp)) (.v (fun _ f => .fieldAddr rfl) (.v (fun _ f => .load (v := .int .i64 e.kind) rfl (hldx 1 1 (by simp) _ _ _ (fun p hp => f (by simp at hp ⊢; simp [hp])) (by omega) rfl)) (.v (fun _ f => .eqi rfl rfl) (.nil ⟨rfl, rfl, rfl, rfl⟩)))))) (.v (fun _ f => .move rfl) ?_)))))
        refine .and 131 138 7 7 rfl rfl (fun g7 => .v (fun _ f => .move rfl) (.v (fun _ f => .indexAddr rfl rfl (by omega) (by simp)) (.v (fun _ f => .fieldAddr rfl) (.v (fun _ f => .load (v := .int .u64 e.q) rfl (hldx 1 9 (by simp) _ _ _ (fun p hp => f (by simp at hp ⊢; simp [hp])) (by omega) rfl)) (.v (fun _ f => .fieldAddr rfl) (.v (fun _ f => .load (v := .int .u64 q) rfl (.one (hb := .sub f) rfl)) (.v (fun _ f => .eqi rfl rfl) (.nil ⟨rfl, rfl, rfl, rfl⟩)))))))) ?_
        refine .v (fun _ f => .move rfl) (.and 140 145 5 5 rfl rfl (fun g8 => .v (fun _ f => .move rfl) (.v (fun _ f => .indexAddr rfl rfl (by omega) (by simp)) (.v (fun _ f => .fieldAddr rfl) (.v (fun _ f => .load (v := .int .i64 e.reason) rfl (hldx 1 11 (by simp) _ _ _ (fun p hp => f (by simp at hp ⊢; simp [hp])) (by omega) rfl)) (.v (fun _ f => .eqi rfl rfl) (.nil ⟨rfl, rfl, rfl, rfl⟩)))))) (.v (fun _ f => .assign rfl) (.nil ?_)))
        exact .ret ⟨[_], ⟨rfl, trivial⟩, congrArg Value.bool (by rw [e1, e2, e3]; simp)⟩
      · rcases hlast with ⟨h, _⟩ | ⟨_, rfl⟩
        · exact absurd h h8
        refine .seq ((.drawK _ (fun _ h => h) (by kernel_rfl) (by kernel_rfl) ?_))
        refine .v (fun _ f => .move rfl) (.v (fun _ f => .slLo rfl rfl (by omega) (by simp only [List.length_cons]; omega)) (.v (fun _ f => .move rfl) (.v (fun _ f => .slLo rfl rfl (by omega) (by simp only [List.length_cons]; omega)) ?_)))
        refine .pc (v := .bool true) rfl rfl (fun w s => events_ok w (cutA (some ⟨bx, ox, none⟩) cF 1 13) (cutA (some ⟨by_, oy, none⟩) cI 1 13) xr.length (cF - 1) (cI - 1) xr (Rd.tail (h := OwnS.rd hF s (no := []) (fun p hp => by simp at hp ⊢; simp [hp]) (by simp)) (e := xe.cells) rfl (fun hne => by have : 0 < xr.length := List.length_pos_iff.2 (fun e => by subst e; exact hne rfl); simp only [List.length_cons] at hcx hcy; omega)) (Rd.tail (h := OwnS.rd hI3 s (no := []) (fun p hp => by simp at hp ⊢; simp [hp]) (by simp)) (e := ye.cells) rfl (fun hne => by have : 0 < xr.length := List.length_pos_iff.2 (fun e => by subst e; exact hne rfl); simp only [List.length_cons] at hcx hcy; omega)) rfl (by simp only [List.length_cons] at hok4; omega)) ?_
        refine .v (fun _ f => .assign rfl) (.nil ?_)
        exact .ret ⟨[_], ⟨rfl, trivial⟩, rfl⟩
end Go.Proofs.Ytmfobfamdaajmaa

/- Plain: nothing is lost of a quantity. -/
namespace Go.Proofs.Ytmfobfamdaajmaa
open Go.V
set_option linter.unusedVariables false
set_option linter.unusedSimpArgs false

/-- what became of an order -/
structure Lv where
  id : Int
  qty : Int
  tr : Int
  ca : Int
  kd : Int
def Lv.cells (x : Lv) : List Value := [.int .u64 x.id, .int .u64 x.qty, .int .u64 x.tr, .int .u64 x.ca, .int .i64 x.kd]
def lids (l : List Lv) : List Int := l.map Lv.id
def Lv.more (x : Lv) (t c : Int) : Lv := ⟨x.id, x.qty, x.tr + t, x.ca + c, x.kd⟩
structure Lv.room (x : Lv) (q : Int) : Prop where
  t : 0 ≤ x.tr
  c : 0 ≤ x.ca
  s : x.tr + x.ca + q ≤ x.qty
  m : x.qty ≤ 4294967295
/-- the first one of a number -/
structure LAt (l : List Lv) (i : Int) (a : Nat) : Prop where
  lt : a < l.length
  id : l[a].id = i
  bf : ∀ j (hj : j < l.length), j < a → l[j].id ≠ i
/-- one event counted -/
inductive C1 : List Lv → Ev → List Lv → Prop
  | ack {l : List Lv} {e : Ev} (h : e.kind = 1) (hn : e.id ∉ lids l) : C1 l e (l ++ [⟨e.id, e.q, 0, 0, e.ty⟩])
  | can {l : List Lv} {e : Ev} (h : e.kind = 4) (a : Nat) (ha : LAt l e.id a) (hq : 0 < e.q) (hr : (l[a]'ha.lt).room e.q) : C1 l e (l.set a ((l[a]'ha.lt).more 0 e.q))
  | tra {l : List Lv} {e : Ev} (h : e.kind = 3) (a b : Nat) (ha : LAt l e.id a) (hb : LAt l e.other b) (hab : a ≠ b) (hq : 0 < e.q) (hr : (l[a]'ha.lt).room e.q) (hr' : (l[b]'hb.lt).room e.q) :
      C1 l e ((l.set a ((l[a]'ha.lt).more e.q 0)).set b ((l[b]'hb.lt).more e.q 0))
  | other {l : List Lv} {e : Ev} (h : e.kind ≠ 1 ∧ e.kind ≠ 3 ∧ e.kind ≠ 4) : C1 l e l
inductive Cs : List Lv → List Ev → List Lv → Prop
  | nil {l : List Lv} : Cs l [] l
  | cons {l l' z : List Lv} {e : Ev} {es : List Ev} : C1 l e l' → Cs l' es z → Cs l (e :: es) z
theorem Cs.app {l l' z : List Lv} {a b : List Ev} (h : Cs l a l') (k : Cs l' b z) : Cs l (a ++ b) z := by
  induction h with
  | nil => exact k
  | cons h1 _ ih => exact .cons h1 (ih k)
theorem Cs.one {l l' : List Lv} {e : Ev} (h : C1 l e l') : Cs l [e] l' := .cons h .nil
/-- the accounts are right: W is what is still there -/
structure AccW (W : Int → Int) (l : List Lv) : Prop where
  nd : (lids l).Nodup
  ok : ∀ x ∈ l, 0 ≤ x.tr ∧ 0 ≤ x.ca ∧ x.tr + x.ca + W x.id = x.qty ∧ x.qty ≤ 4294967295
  all : ∀ i, 0 < W i → i ∈ lids l
  nn : ∀ i, 0 ≤ W i
theorem AccW.congr {W W' : Int → Int} {l : List Lv} (h : AccW W l) (e : ∀ i, W i = W' i) : AccW W' l := by
  obtain rfl : W = W' := funext e
  exact h
theorem lat_of {l : List Lv} {i : Int} (nd : (lids l).Nodup) (h : i ∈ lids l) : ∃ a, LAt l i a := by
  obtain ⟨x, hx, e⟩ := List.mem_map.1 h
  obtain ⟨a, ha, rfl⟩ := List.mem_iff_getElem.1 hx
  refine ⟨a, ha, e, fun j hj hja e' => ?_⟩
  have h' : l.Pairwise (fun a b => a.id ≠ b.id) := List.pairwise_map.1 nd
  exact List.pairwise_iff_getElem.1 h' j a hj ha hja (e'.trans e.symm)
theorem nd_ne {l : List Lv} (nd : (lids l).Nodup) {a j : Nat} (ha : a < l.length) (hj : j < l.length) (hne : j ≠ a) : l[j].id ≠ l[a].id := by
  have h' : l.Pairwise (fun a b => a.id ≠ b.id) := List.pairwise_map.1 nd
  rcases Nat.lt_or_gt_of_ne hne with h | h
  · exact List.pairwise_iff_getElem.1 h' j a hj ha h
  · exact fun e => List.pairwise_iff_getElem.1 h' a j ha hj h e.symm
theorem lids_set {l : List Lv} {a : Nat} {y : Lv} (ha : a < l.length) (h : y.id = l[a].id) : lids (l.set a y) = lids l := by
  unfold lids
  rw [List.map_set, h]
  have : (l.map Lv.id)[a]'(by simpa using ha) = l[a].id := by simp
  rw [← this, List.set_getElem_self]
theorem AccW.set {W W' : Int → Int} {l : List Lv} (h : AccW W l) {a : Nat} (ha : a < l.length) {t c : Int} (h0 : 0 ≤ t ∧ 0 ≤ c) (hw : t + c ≤ W l[a].id) (e : ∀ i, W' i = W i - if l[a].id = i then t + c else 0) :
    AccW W' (l.set a (l[a].more t c)) := by
  have hl : lids (l.set a (l[a].more t c)) = lids l := lids_set ha rfl
  refine ⟨by rw [hl]; exact h.nd, fun x hx => ?_, fun i hi => ?_, fun i => ?_⟩
  · obtain ⟨j, hj, rfl⟩ := List.mem_iff_getElem.1 hx
    rw [List.getElem_set]
    have hj' : j < l.length := by simpa using hj
    split
    · rename_i e1
      have := h.ok _ (List.getElem_mem ha)
      have e2 := e l[a].id
      rw [if_pos rfl] at e2
      unfold Lv.more
      simp only
      rw [e2]; omega
    · rename_i e1
      have := h.ok _ (List.getElem_mem hj')
      rw [e, if_neg (fun e2 => nd_ne h.nd ha hj' (fun e3 => e1 e3.symm) e2.symm)]
      omega
  · rw [hl]
    refine h.all i ?_
    rw [e] at hi
    split at hi <;> omega
  · rw [e]
    have := h.nn i
    split
    · rename_i e1; rw [← e1]; omega
    · omega
theorem acc_can {W W' : Int → Int} {l : List Lv} {e : Ev} (h : AccW W l) (hk : e.kind = 4) (hq : 0 < e.q) (hw : e.q ≤ W e.id) (hW : ∀ i, W' i = W i - if e.id = i then e.q else 0) : ∃ l', C1 l e l' ∧ AccW W' l' ∧ lids l' = lids l := by
  obtain ⟨a, ha⟩ := lat_of h.nd (h.all e.id (by omega))
  have hid := ha.id
  have hok := h.ok _ (List.getElem_mem ha.lt)
  rw [hid] at hok
  refine ⟨_, .can hk a ha hq ⟨by omega, by omega, by omega, by omega⟩, h.set ha.lt (t := 0) (c := e.q) (by omega) (by rw [hid]; omega) (fun i => ?_), lids_set ha.lt rfl⟩
  rw [hW, hid, Int.zero_add]
theorem acc_tra {W W' : Int → Int} {l : List Lv} {e : Ev} (h : AccW W l) (hk : e.kind = 3) (hne : e.id ≠ e.other) (hq : 0 < e.q) (hw : e.q ≤ W e.id) (hw' : e.q ≤ W e.other) (hW : ∀ i, W' i = W i - (if e.id = i then e.q else 0) - (if e.other = i then e.q else 0)) :
    ∃ l', C1 l e l' ∧ AccW W' l' ∧ lids l' = lids l := by
  obtain ⟨a, ha⟩ := lat_of h.nd (h.all e.id (by omega))
  obtain ⟨b, hb⟩ := lat_of h.nd (h.all e.other (by omega))
  have hid := ha.id
  have hid' := hb.id
  have hab : a ≠ b := fun e1 => by subst e1; exact hne (hid.symm.trans hid')
  have hok := h.ok _ (List.getElem_mem ha.lt)
  have hok' := h.ok _ (List.getElem_mem hb.lt)
  rw [hid] at hok
  rw [hid'] at hok'
  have hba : b < (l.set a ((l[a]'ha.lt).more e.q 0)).length := by simpa using hb.lt
  have hg : (l.set a ((l[a]'ha.lt).more e.q 0))[b] = l[b]'hb.lt := by rw [List.getElem_set, if_neg hab]
  have s1 : AccW (fun i => W i - if e.id = i then e.q else 0) (l.set a ((l[a]'ha.lt).more e.q 0)) := h.set ha.lt (t := e.q) (c := 0) (by omega) (by rw [hid]; omega) (fun i => by rw [hid, Int.add_zero])
  have s2 := s1.set (W' := W') hba (t := e.q) (c := 0) (by omega) (by rw [hg, hid', if_neg hne]; omega) (fun i => by rw [hg, hid', hW, Int.add_zero])
  rw [hg] at s2
  refine ⟨_, .tra hk a b ha hb hab hq ⟨by omega, by omega, by omega, by omega⟩ ⟨by omega, by omega, by omega, by omega⟩, s2, ?_⟩
  exact (lids_set hba (y := (l[b]'hb.lt).more e.q 0) (by rw [hg]; rfl)).trans (lids_set ha.lt rfl)
/-- how much of a number a side has -/
def amt (i : Int) : List Ord → Int
  | [] => 0
  | o :: l => (if o.id = i then o.v + o.hd else 0) + amt i l
theorem amt_app (i : Int) : ∀ a b : List Ord, amt i (a ++ b) = amt i a + amt i b
  | [], b => by simp [amt]
  | o :: a, b => by simp only [List.cons_append, amt, amt_app i a b]; omega
theorem amt_perm {i : Int} {a b : List Ord} (h : a.Perm b) : amt i a = amt i b := by
  induction h with
  | nil => rfl
  | cons x _ ih => simp only [amt, ih]
  | swap x y l => simp only [amt]; omega
  | trans _ _ h1 h2 => exact h1.trans h2
theorem amt_nn {i : Int} : ∀ {l : List Ord}, (∀ o ∈ l, o.G) → 0 ≤ amt i l
  | [], _ => Int.le_refl _
  | o :: l, h => by
    have ih := amt_nn (i := i) fun x hx => h x (List.mem_cons_of_mem o hx)
    have := h o (by simp)
    unfold Ord.G at this
    unfold amt; split <;> omega
theorem amt_none {i : Int} : ∀ {l : List Ord}, i ∉ ids l → amt i l = 0
  | [], _ => rfl
  | o :: l, h => by
    have h' : ¬ (i = o.id ∨ i ∈ ids l) := fun e => h (List.mem_cons.2 e)
    have ih := amt_none (l := l) fun e => h' (.inr e)
    unfold amt; rw [if_neg (fun e => h' (.inl e.symm)), ih]; rfl
theorem amt_mem {i : Int} {o : Ord} : ∀ {l : List Ord}, (ids l).Nodup → o ∈ l → o.id = i → amt i l = o.v + o.hd
  | x :: l, nd, hm, e => by
    have nd : x.id ∉ ids l ∧ (ids l).Nodup := List.nodup_cons.1 nd
    unfold amt
    rcases List.mem_cons.1 hm with rfl | hm
    · rw [if_pos e, amt_none (by rw [← e]; exact nd.1)]; omega
    · have hne : x.id ≠ i := fun e' => nd.1 (by rw [e', ← e]; exact List.mem_map.2 ⟨o, hm, rfl⟩)
      rw [if_neg hne, amt_mem nd.2 hm e]; omega
theorem amt_pos {i : Int} {l : List Ord} (h : 0 < amt i l) : i ∈ ids l := Decidable.byContradiction fun hn => by rw [amt_none hn] at h; omega
/-- what is still there, while an order trades: the other side, its own side, itself -/
def Wt (t : Tk) (S : List Ord) (s : TS) (i : Int) : Int := amt i s.L + amt i S + if t.o.id = i then s.left else 0
theorem step_acc {meet : Int} {t : Tk} {S : List Ord} {s s' : TS} {al : List Lv} (h : s.Ok) (hS : ∀ o ∈ S, o.G) (hs : s.step meet t = some s') (hid : t.o.id ∉ ids (s.L ++ S)) (ha : AccW (Wt t S s) al) :
    ∃ l al', s'.evs = s.evs ++ l ∧ Cs al l al' ∧ AccW (Wt t S s') al' ∧ lids al' = lids al := by
  obtain ⟨L, left, seq, evs⟩ := s
  obtain ⟨hg, hlo, hhi⟩ := h
  unfold TS.step at hs
  simp only at hs hg hlo hhi hid
  cases L with
  | nil => cases hs
  | cons f rest =>
    simp only at hs
    have hfG := hg f (by simp)
    have hrest : ∀ i, 0 ≤ amt i rest := fun i => amt_nn fun x hx => hg x (by simp [hx])
    have hSn : ∀ i, 0 ≤ amt i S := fun i => amt_nn hS
    have hne : t.o.id ≠ f.id := fun e => hid (by rw [e]; exact List.mem_map.2 ⟨f, by simp, rfl⟩)
    have hW : ∀ i, Wt t S ⟨f :: rest, left, seq, evs⟩ i = (if f.id = i then f.v + f.hd else 0) + amt i rest + amt i S + if t.o.id = i then left else 0 := fun i => rfl
    have hWt := hW t.o.id
    rw [if_pos rfl, if_neg (Ne.symm hne)] at hWt
    have hWf := hW f.id
    rw [if_pos rfl, if_neg hne] at hWf
    have r1 := hrest t.o.id
    have r2 := hrest f.id
    have r3 := hSn t.o.id
    have r4 := hSn f.id
    unfold Ord.G at hfG
    split at hs
    · rename_i hc
      have hl0 := hc.1
      simp only [Option.some.injEq] at hs
      subst hs
      split
      · simp only [TS.meets]
        by_cases m1 : meet = 1
        · rw [if_pos m1, if_neg (show ¬ meet = 2 by omega)]
          obtain ⟨al', c1, c2, c3⟩ := acc_can (W' := Wt t S ⟨f :: rest, 0, seq, evs⟩) (e := (evCancel t.o.id left 5).num (nx seq)) ha rfl hl0 (by show left ≤ Wt _ _ _ t.o.id; omega) (fun i => by
            show _ = _ - if t.o.id = i then left else 0
            unfold Wt; simp only; split <;> omega)
          exact ⟨_, al', rfl, .one c1, c2, c3⟩
        · rw [if_neg m1]
          obtain ⟨al1, c1, c2, c3⟩ := acc_can (W' := Wt t S ⟨rest, left, seq, evs⟩) (e := (evCancel f.id (f.v + f.hd) 5).num (nx seq)) ha rfl (by show 0 < f.v + f.hd; omega) (by show f.v + f.hd ≤ Wt _ _ _ f.id; omega) (fun i => by
            show _ = _ - if f.id = i then f.v + f.hd else 0
            rw [hW]; unfold Wt; simp only; omega)
          by_cases m2 : meet = 2
          · rw [if_pos m2]
            exact ⟨_, al1, rfl, .one c1, c2, c3⟩
          · rw [if_neg m2]
            obtain ⟨al2, d1, d2, d3⟩ := acc_can (W' := Wt t S ⟨rest, 0, seq, evs⟩) (e := (evCancel t.o.id left 5).num (nx (nx seq))) c2 rfl hl0 (by show left ≤ Wt _ _ _ t.o.id; unfold Wt; simp only [if_true]; omega) (fun i => by
              show _ = _ - if t.o.id = i then left else 0
              unfold Wt; simp only; split <;> omega)
            exact ⟨_, al2, List.append_assoc _ _ _, (Cs.one c1).app (.one d1), d2, d3.trans c3⟩
      · simp only [TS.hit]
        have hq : 0 < min left f.v := by omega
        have key : ∀ (s' : TS), s'.left = left - min left f.v → (∀ i, amt i s'.L = (if f.id = i then f.v + f.hd - min left f.v else 0) + amt i rest) →
            ∃ al', C1 al ((evTrade t.o.id f.id t.side f.pr (min left f.v)).num (nx seq)) al' ∧ AccW (Wt t S s') al' ∧ lids al' = lids al := fun s' e1 e2 =>
          acc_tra ha rfl hne hq (by show min left f.v ≤ Wt _ _ _ t.o.id; omega) (by show min left f.v ≤ Wt _ _ _ f.id; omega) (fun i => by
            show _ = _ - (if t.o.id = i then min left f.v else 0) - (if f.id = i then min left f.v else 0)
            rw [hW]; unfold Wt; rw [e1, e2]
            split <;> split <;> omega)
        by_cases c1 : 0 < f.v - min left f.v
        · rw [if_pos c1]
          obtain ⟨al', c1, c2, c3⟩ := key ⟨f.less (min left f.v) :: rest, left - min left f.v, nx seq, evs⟩ rfl (fun i => by
            show (if f.id = i then (f.v - min left f.v) + f.hd else 0) + amt i rest = _
            split <;> omega)
          exact ⟨_, al', rfl, .one c1, c2, c3⟩
        · rw [if_neg c1]
          by_cases c2 : 0 < f.hd
          · rw [if_pos c2]
            obtain ⟨al', d1, d2, d3⟩ := key ⟨rst (3 - t.side) f.next rest, left - min left f.v, nx (nx seq), evs⟩ rfl (fun i => by
              show amt i (rst (3 - t.side) f.next rest) = _
              rw [amt_perm (rst_perm _ _ _)]
              show (if f.id = i then min f.pk f.hd + (f.hd - min f.pk f.hd) else 0) + amt i rest = _
              split <;> omega)
            exact ⟨_, al', List.append_assoc _ _ _, (Cs.one d1).app (.one (.other (by show (5 : Int) ≠ 1 ∧ (5 : Int) ≠ 3 ∧ (5 : Int) ≠ 4; decide))), d2, d3⟩
          · rw [if_neg c2]
            obtain ⟨al', c1, c2, c3⟩ := key ⟨rest, left - min left f.v, nx seq, evs⟩ rfl (fun i => by
              show amt i rest = _
              split <;> omega)
            exact ⟨_, al', rfl, .one c1, c2, c3⟩
    · cases hs
theorem TRun.acc {meet : Int} {t : Tk} {S : List Ord} {s z : TS} {al : List Lv} (hr : TRun meet t s z) (h : s.Ok) (hS : ∀ o ∈ S, o.G) (hsd : Sd (3 - t.side) s.L) (hid : t.o.id ∉ ids (s.L ++ S)) (ha : AccW (Wt t S s) al) :
    ∃ l al', z.evs = s.evs ++ l ∧ Cs al l al' ∧ AccW (Wt t S z) al' ∧ lids al' = lids al := by
  induction hr generalizing al with
  | stop _ => exact ⟨[], al, by simp, .nil, ha, rfl⟩
  | step hs _ ih =>
    obtain ⟨l1, al1, a1, a2, a3, a4⟩ := step_acc h hS hs hid ha
    have hk := step_keeps hs hsd
    obtain ⟨l2, al2, b1, b2, b3, b4⟩ := ih (h.step hs).1 hk.sd (fun hm => hid (by
      rw [ids_app, List.mem_append] at hm ⊢
      exact hm.imp (ids_mem hk.ids _) id)) a3
    exact ⟨l1 ++ l2, al2, by rw [b1, a1, List.append_assoc], a2.app b2, b3, b4.trans a4⟩
end Go.Proofs.Ytmfobfamdaajmaa

/- Plain: nothing is lost of a quantity, whatever a book is told. -/
namespace Go.Proofs.Ytmfobfamdaajmaa
open Go.V
set_option linter.unusedVariables false
set_option linter.unusedSimpArgs false

def Bk.amt (B : Bk) (i : Int) : Int := Proofs.Ytmfobfamdaajmaa.amt i B.bs + Proofs.Ytmfobfamdaajmaa.amt i B.ss
theorem side_amt {B : Bk} {s : Int} (h : s = 1 ∨ s = 2) (i : Int) : B.amt i = amt i (B.side (3 - s)) + amt i (B.side s) := by
  rcases h with rfl | rfl
  · show _ = amt i B.ss + amt i B.bs; unfold Bk.amt; omega
  · rfl
theorem put_amt {B : Bk} {s : Int} (h : s = 1 ∨ s = 2) (l : List Ord) (i : Int) : (B.put s l).amt i = amt i l + amt i (B.side (3 - s)) := by
  rcases h with rfl | rfl
  · rfl
  · show amt i B.bs + amt i l = amt i l + amt i B.bs; omega
/-- the accounts of a book are right -/
structure Acc (B : Bk) (al : List Lv) : Prop where
  w : AccW B.amt al
  hi : ∀ i ∈ lids al, i ≤ B.high
theorem erase_amt {l : List Ord} {k : Nat} (hk : k < l.length) (i : Int) : amt i (l.eraseIdx k) = amt i l - if l[k].id = i then l[k].v + l[k].hd else 0 := by
  have e : l = l.take k ++ l[k] :: l.drop (k + 1) := by rw [← List.drop_eq_getElem_cons hk, List.take_append_drop]
  have e2 : amt i l = amt i (l.take k ++ l[k] :: l.drop (k + 1)) := congrArg (amt i) e
  rw [List.eraseIdx_eq_take_drop_succ, e2, amt_app, amt_app]
  show _ = amt i (l.take k) + ((if l[k].id = i then l[k].v + l[k].hd else 0) + amt i (l.drop (k + 1))) - _
  omega
theorem goes_acc {B : Bk} {c : Cm} {al : List Lv} (h : B.Vl) (ht : c.k ≠ 1 → B.tgt c ≠ none) (ha : AccW B.amt al) : ∃ al', Cs al (B.gone c) al' ∧ AccW (B.goes c).amt al' ∧ lids al' = lids al := by
  unfold Bk.gone Bk.goes
  by_cases hk : c.k ≠ 1
  · rw [if_pos hk, if_pos hk]
    rcases at_spec B c with ⟨_, h', _⟩ | ⟨s, hs, k, hk', e, e2, hid⟩
    · exact absurd h' (ht hk)
    rw [e, e2]
    simp only [Int.toNat_natCast]
    have hG := (h.rests _ (B.side_sub s _ (List.getElem_mem hk'))).G
    unfold Ord.G at hG
    have hn3 : ∀ i, 0 ≤ amt i (B.side (3 - s)) := fun i => amt_nn fun x hx => (h.rests x (B.side_sub _ x hx)).G
    have hn4 : ∀ i, 0 ≤ amt i ((B.side s).eraseIdx k) := fun i => amt_nn fun x hx => (h.rests x (B.side_sub _ x (List.mem_of_mem_eraseIdx hx))).G
    have herase := fun i => erase_amt hk' i
    generalize (B.side s)[k] = o at *
    obtain ⟨al', c1, c2, c3⟩ := acc_can (W' := ((B.put s ((B.side s).eraseIdx k)).num (nx B.seq)).amt) (e := (evCancel c.tg (o.v + o.hd) (if c.k = 3 then 2 else 1)).num (nx B.seq)) ha rfl (by show 0 < o.v + o.hd; omega)
      (by show o.v + o.hd ≤ B.amt c.tg
          have h1 := herase c.tg
          rw [if_pos hid] at h1
          rw [side_amt hs]
          have := hn3 c.tg; have := hn4 c.tg; omega)
      (fun i => by
        show (B.put s ((B.side s).eraseIdx k)).amt i = B.amt i - if c.tg = i then o.v + o.hd else 0
        rw [put_amt hs, herase, side_amt hs, hid]; omega)
    exact ⟨al', .one c1, c2, c3⟩
  · rw [if_neg hk, if_neg hk]
    exact ⟨al, .nil, ha, rfl⟩
theorem acc_ack {W W' : Int → Int} {l : List Lv} {e : Ev} (h : AccW W l) (hk : e.kind = 1) (hn : e.id ∉ lids l) (h0 : W e.id = 0) (hq : 0 < e.q ∧ e.q ≤ 4294967295) (hW : ∀ i, W' i = W i + if e.id = i then e.q else 0) :
    ∃ l', C1 l e l' ∧ AccW W' l' ∧ lids l' = lids l ++ [e.id] := by
  refine ⟨_, .ack hk hn, ⟨?_, fun x hx => ?_, fun i hi => ?_, fun i => ?_⟩, by simp [lids]⟩
  · have : lids (l ++ [⟨e.id, e.q, 0, 0, e.ty⟩]) = lids l ++ [e.id] := by simp [lids]
    rw [this, List.nodup_append]
    exact ⟨h.nd, by simp, fun a ha b hb => by simp at hb; subst hb; exact fun e' => hn (e' ▸ ha)⟩
  · rcases List.mem_append.1 hx with hx | hx
    · have := h.ok x hx
      rw [hW, if_neg (fun e' => hn (by rw [e']; exact List.mem_map.2 ⟨x, hx, rfl⟩))]; omega
    · simp at hx
      subst hx
      simp only
      rw [hW, if_pos rfl, h0]; omega
  · rw [hW] at hi
    have : i ∈ lids l ∨ i = e.id := by
      by_cases e1 : e.id = i
      · exact .inr e1.symm
      · rw [if_neg e1] at hi; exact .inl (h.all i (by omega))
    simpa [lids] using this
  · rw [hW]; have := h.nn i; split <;> omega
theorem comes_acc {B : Bk} {evs : List Ev} {t : Tk} {al : List Lv} (h : B.Vl) (k : t.V B) (hh : t.o.id ≤ B.high) (ha : AccW (fun i => B.amt i + if t.o.id = i then t.left else 0) al) :
    ∃ l al', (B.comes evs t).2 = evs ++ l ∧ Cs al l al' ∧ AccW (B.comes evs t).1.amt al' ∧ lids al' = lids al := by
  have hOk : (B.ts evs t).Ok := ts_ok' h k
  have hrun := tr_run (meet := B.meet) (t := t) hOk
  obtain ⟨zok, zlen, _, zl⟩ := hrun.ok hOk
  have hfr : t.o.id ∉ ids (B.bs ++ B.ss) := fun hm => absurd (k.fresh _ hm) (Int.lt_irrefl _)
  have hsub : ∀ s : Int, ∀ i, i ∈ ids (B.side s) → i ∈ ids (B.bs ++ B.ss) := fun s i hi => by
    obtain ⟨o, ho, e⟩ := List.mem_map.1 hi
    exact List.mem_map.2 ⟨o, B.side_sub s o ho, e⟩
  have hnn : ∀ s : Int, ∀ i, 0 ≤ amt i (B.side s) := fun s i => amt_nn fun x hx => (h.rests x (B.side_sub _ x hx)).G
  have hW0 : AccW (Wt t (B.side t.side) (B.ts evs t)) al := ha.congr fun i => by
    show B.amt i + _ = amt i (B.side (3 - t.side)) + amt i (B.side t.side) + _
    rw [side_amt k.sd]; rfl
  obtain ⟨l, al', a1, a2, a3, a4⟩ := hrun.acc hOk (S := B.side t.side) (fun o ho => (h.rests o (B.side_sub _ o ho)).G)
    (by show Sd _ (B.side (3 - t.side)); rcases k.sd with e | e <;> rw [e]; exact h.s2; exact h.s1)
    (fun hm => by
      rw [ids_app, List.mem_append] at hm
      rcases hm with hm | hm
      · exact hfr (hsub _ _ hm)
      · exact hfr (hsub _ _ hm)) hW0
  unfold Bk.comes
  split
  · obtain ⟨al', c1, c2, c3⟩ := acc_can (W' := (B.num (nx B.seq)).amt) (e := (evCancel t.o.id t.left 4).num (nx B.seq)) ha rfl (by show 0 < t.left; have := k.q; omega) (by
      show t.left ≤ B.amt t.o.id + if t.o.id = t.o.id then t.left else 0
      rw [if_pos rfl, side_amt k.sd]
      have := hnn (3 - t.side) t.o.id; have := hnn t.side t.o.id; omega) (fun i => by
      show B.amt i = (B.amt i + if t.o.id = i then t.left else 0) - if t.o.id = i then t.left else 0
      omega)
    exact ⟨_, al', rfl, .one c1, c2, c3⟩
  · simp only
    generalize tr B.meet t (B.ts evs t) = z at *
    obtain ⟨v1, v2, v3, v4, v5⟩ := traded_vl h k.sd hrun zlen
    have hamt : ∀ i, (B.traded t z).amt i = amt i z.L + amt i (B.side t.side) := fun i => by rw [side_amt k.sd, v3, v4]
    have hzn : ∀ i, 0 ≤ amt i z.L := fun i => amt_nn fun x hx => zok.good x hx
    have hlo := zok.lo
    split
    · rename_i hl
      refine ⟨l, al', a1, a2, a3.congr fun i => ?_, a4⟩
      rw [hamt]; unfold Wt; rw [hl]; split <;> omega
    · rename_i hl
      split
      · obtain ⟨al2, c1, c2, c3⟩ := acc_can (W' := ((B.traded t z).num (nx (B.traded t z).seq)).amt) (e := (evCancel t.o.id z.left 3).num (nx (B.traded t z).seq)) a3 rfl (by show 0 < z.left; omega) (by
          show z.left ≤ Wt t (B.side t.side) z t.o.id
          unfold Wt; rw [if_pos rfl]
          have := hzn t.o.id; have := hnn t.side t.o.id; omega) (fun i => by
          show (B.traded t z).amt i = _ - if t.o.id = i then z.left else 0
          rw [hamt]; unfold Wt; omega)
        exact ⟨l ++ [(evCancel t.o.id z.left 3).num (nx (B.traded t z).seq)], al2, by rw [a1, List.append_assoc]; rfl, a2.app (.one c1), c2, c3.trans a4⟩
      · refine ⟨l, al', a1, a2, a3.congr fun i => ?_, a4⟩
        rw [put_amt k.sd, v3, v4, amt_perm (rst_perm _ _ _)]
        have e3 : amt i (restOf t.o z.left :: B.side t.side) = (if t.o.id = i then (restOf t.o z.left).v + (restOf t.o z.left).hd else 0) + amt i (B.side t.side) := rfl
        have e4 : (restOf t.o z.left).v + (restOf t.o z.left).hd = z.left := by unfold restOf; simp only; omega
        rw [e3, e4]
        unfold Wt
        split <;> omega
theorem does_acc {B : Bk} {c : Cm} {al : List Lv} (h : B.Vl) (hw : c.wf) (ha : Acc B al) : ∃ al', Cs al (B.does c).2 al' ∧ Acc (B.does c).1 al' ∧ al'.length ≤ al.length + 1 := by
  have llen : ∀ l : List Lv, (lids l).length = l.length := fun l => by simp [lids]
  by_cases h0 : B.why c ≠ 0
  · rw [does_no h0]
    exact ⟨al, .one (.other (by show (2 : Int) ≠ 1 ∧ (2 : Int) ≠ 3 ∧ (2 : Int) ≠ 4; decide)), ⟨ha.w, ha.hi⟩, by omega⟩
  have h0' : B.why c = 0 := Decidable.of_not_not h0
  obtain ⟨z1, z2, z3, z4, z5⟩ := rfs_zero h0'
  obtain ⟨al1, a1, a2, a3⟩ := goes_acc (c := c) h z1 ha.w
  have hgv := goes_vl (c := c) h z1
  have hgc := goes_cap B c
  unfold Bk.does
  rw [if_neg h0]
  by_cases h2 : c.k ≠ 2
  · rw [if_pos h2]
    obtain ⟨hV, hlt⟩ := cmg_V h hw h0' h2
    generalize cmg c (B.tgt c) (B.at_ c).1 = t at *
    have hB0 : (((B.goes c).num (nx (B.goes c).seq)).top t.o.id).Vl := top_vl (num_vl _ hgv) (by show (B.goes c).high ≤ _; rw [hgc.2.2]; omega)
    have hfr : t.o.id ∉ ids ((B.goes c).bs ++ (B.goes c).ss) := fun hm => absurd (hV.fresh _ hm) (Int.lt_irrefl _)
    have h00 : (B.goes c).amt t.o.id = 0 := by
      unfold Bk.amt
      rw [ids_app, List.mem_append] at hfr
      rw [amt_none (fun e => hfr (.inl e)), amt_none (fun e => hfr (.inr e))]; rfl
    obtain ⟨al2, b1, b2, b3⟩ := acc_ack (W' := fun i => (((B.goes c).num (nx (B.goes c).seq)).top t.o.id).amt i + if t.o.id = i then t.left else 0) (e := (evAck t).num (nx (B.goes c).seq)) a2 rfl
      (fun hm => by
        rw [a3] at hm
        have := ha.hi _ hm
        have e : ((evAck t).num (nx (B.goes c).seq)).id = t.o.id := rfl
        omega) h00 (by have := hV.q; exact ⟨by show 0 < t.left; omega, this.2⟩) (fun i => rfl)
    obtain ⟨l, al3, c1, c2, c3, c4⟩ := comes_acc (evs := B.gone c ++ [(evAck t).num (nx (B.goes c).seq)]) hB0 hV (Int.le_refl _) b2
    obtain ⟨_, _, _, hhigh⟩ := comes_evs (B := ((B.goes c).num (nx (B.goes c).seq)).top t.o.id) (evs := B.gone c ++ [(evAck t).num (nx (B.goes c).seq)]) (t := t) (ts_ok' hB0 hV)
    refine ⟨al3, by rw [c1]; exact (a1.app (.one b1)).app c2, ⟨c3, fun i hi => ?_⟩, by rw [← llen, ← llen al, c4, b3, a3]; simp⟩
    rw [hhigh.2]
    rw [c4, b3, a3, List.mem_append] at hi
    show i ≤ t.o.id
    rcases hi with hi | hi
    · have := ha.hi i hi; omega
    · simp at hi; subst hi; exact Int.le_refl _
  · rw [if_neg h2]
    exact ⟨al1, a1, ⟨a2, fun i hi => by rw [hgc.2.2]; rw [a3] at hi; exact ha.hi i hi⟩, by rw [← llen, ← llen al, a3]; omega⟩
/-- how many of the accounts stand in a book -/
def stand (B : Bk) (al : List Lv) : Nat := (al.filter fun x => (fnd x.id B.bs B.ss).isSome).length
theorem fnd_iff {i : Int} {B : Bk} : (fnd i B.bs B.ss).isSome = true ↔ i ∈ ids (B.bs ++ B.ss) := by
  constructor
  · intro h
    exact Decidable.byContradiction fun hn => by rw [fnd_none hn] at h; cases h
  · intro h
    obtain ⟨p, hp, _⟩ := fnd_some h
    rw [hp]; rfl
theorem stand_len {B : Bk} {al : List Lv} (h : B.Vl) (ha : Acc B al) : stand B al = B.bs.length + B.ss.length := by
  have e1 : stand B al = ((lids al).filter fun i => (fnd i B.bs B.ss).isSome).length := by
    unfold stand lids
    rw [List.filter_map, List.length_map]; rfl
  have hp : ((lids al).filter fun i => (fnd i B.bs B.ss).isSome).Perm (ids (B.bs ++ B.ss)) := by
    refine (List.perm_ext_iff_of_nodup (List.Nodup.sublist List.filter_sublist ha.w.nd) h.nd).2 fun i => ?_
    rw [List.mem_filter, fnd_iff]
    refine ⟨fun e => e.2, fun e => ⟨ha.w.all i ?_, e⟩⟩
    obtain ⟨o, ho, rfl⟩ := List.mem_map.1 e
    have hG := (h.rests o ho).G
    unfold Ord.G at hG
    have : B.amt o.id = amt o.id (B.bs ++ B.ss) := (amt_app _ _ _).symm
    rw [this, amt_mem h.nd ho rfl]; omega
  rw [e1, hp.length_eq]
  simp [ids]
theorem stand_take {B : Bk} {al : List Lv} {j : Nat} (h : j < al.length) : stand B (al.take (j + 1)) = stand B (al.take j) + if (fnd al[j].id B.bs B.ss).isSome = true then 1 else 0 := by
  unfold stand
  rw [← List.take_append_getElem h, List.filter_append, List.length_append]
  congr 1
  split
  · rename_i e; simp [e]
  · rename_i e; simp [e]
/-- an account and what stands there of its order -/
theorem fnd_acc {B : Bk} {al : List Lv} (h : B.Vl) (ha : Acc B al) {x : Lv} (hx : x ∈ al) : ∃ (o : Ord) (s : Int), fndV (fnd x.id B.bs B.ss) = .tuple ⟨[.agg ⟨o.cells⟩, .int .i64 s, .bool (fnd x.id B.bs B.ss).isSome]⟩ ∧
    0 ≤ x.tr ∧ 0 ≤ x.ca ∧ 0 ≤ o.v ∧ 0 ≤ o.hd ∧ x.tr + x.ca + o.v + o.hd = x.qty ∧ x.qty ≤ 4294967295 := by
  have hok := ha.w.ok x hx
  by_cases hm : x.id ∈ ids (B.bs ++ B.ss)
  · obtain ⟨p, hp, hpm, hpi⟩ := fnd_some hm
    refine ⟨p.2, p.1, by rw [hp]; rfl, ?_⟩
    have hG := (h.rests _ hpm).G
    unfold Ord.G at hG
    have : B.amt x.id = amt x.id (B.bs ++ B.ss) := (amt_app _ _ _).symm
    rw [this, amt_mem h.nd hpm hpi] at hok
    omega
  · refine ⟨ord0, 0, by rw [fnd_none hm]; rfl, ?_⟩
    have : B.amt x.id = amt x.id (B.bs ++ B.ss) := (amt_app _ _ _).symm
    rw [this, amt_none hm] at hok
    simp only [ord0]; omega
end Go.Proofs.Ytmfobfamdaajmaa
