/- MG: several texts in one. -/
import Derived.Test.YtmfobfamdaajmaaMF
/- Find, Load, events. -/
namespace Go.Proofs.Ytmfobfamdaajmaa
open Go.V
set_option linter.unusedVariables false
set_option linter.unusedSimpArgs false

abbrev EL : List Lf := [.i .u64, .i .i64, .i .u64, .i .u64, .i .u64, .i .u32, .i .i64, .i .i64, .i .i64, .i .u64, .i .u64, .i .i64, .i .i64]
theorem Ev.oks (o : Ev) : V.oks EL o.cells := ⟨rfl, rfl, rfl, rfl, rfl, rfl, rfl, rfl, rfl, rfl, rfl, rfl, rfl, trivial⟩
set_option maxRecDepth 10000 in
theorem events_ok (w : World) (A B : Option Addr) (len ca cb : Nat) (l : List Ev) (hA : Rd w [] A (erows l)) (hB : Rd w [] B (erows l)) (hl : len = l.length) (hb : len ≤ 1353245080300) :
    Is Try.prog 27 [.slice A len ca, .slice B len cb] w (.bool true) := by
  refine Does.pure (Does.of (n := 26) Try.func27 rfl rfl rfl rfl ?_)
  refine .seq ((.region (.v (.assign rfl) (.nil ?_))))
  refine .seq (.seq ((.region (.v (.move rfl) (.v (.len rfl) (.v (.move rfl) (.v (.len rfl) (.v (.nei rfl rfl) (.nil ?_)))))))))
  refine .cond_dec rfl (fun g => absurd rfl g) (fun g => .skip ?_)
  refine .seq (.seq ((.region (.v (.assign rfl) (.nil ?_)))))
  refine .block (.loop (X := Nat) (fun i => [(0, .slice A len ca), (1, .slice B len cb), (5, .int .i64 i)]) (fun _ => []) (fun i => i ≤ len) (fun i => len - i) 0 (by omega) (.cons rfl (.cons rfl (.cons rfl (.nil _)))) (fun _ s => s) ?_)
  intro i hi
  refine .seq (.seq ((.region (.v (.move rfl) (.v (.move rfl) (.v (.len rfl) (.v (.lss rfl rfl) (.nil ?_))))))))
  refine .cond_dec rfl (fun g2 => .skip ?_) (fun g2 => .exit ?_)
  · have hil : i < l.length := by omega
    obtain ⟨b, o, rfl, -, hc⟩ := Rd.ev hA (by omega)
    obtain ⟨b', o', rfl, -, hc'⟩ := Rd.ev hB (by omega)
    refine .seq (.block (.seq ((.drawS (by kernel_rfl) (by kernel_rfl) (.v (.move rfl) (.v (.move rfl) (.v (.indexAddr rfl rfl (by omega) (by omega)) (.v (.loadA (vs := l[i].cells) rfl (.old (fun j v hv => ?_) (by simp [bl])) rfl) (.v (.move rfl) (.v (.move rfl) (.v (.indexAddr rfl rfl (by omega) (by omega)) (.v (.loadA (vs := l[i].cells) rfl (.old (fun j v hv => ?_) (by simp [bl])) rfl) (.v (.neA rfl rfl l[i].oks l[i].oks) (.nil ?_))))))))))))))
    · rw [add_none, Int.toNat_natCast]; exact hc i hil j v (List.getElem?_eq_some_iff.1 hv).1 hv
    · rw [add_none, Int.toNat_natCast]; exact hc' i hil j v (List.getElem?_eq_some_iff.1 hv).1 hv
    refine .cond rfl (fun g3 => absurd g3 (by rw [(cellsEq_iff l[i].oks l[i].oks).2 rfl]; simp)) (fun _ => .skip ?_)
    refine .region (.v (.move rfl) (.v (.addi rfl rfl (by omega)) (.v (.assign rfl) (.nil ?_))))
    exact ⟨i + 1, by omega, by omega, .cons rfl (.cons rfl (.cons rfl (.nil _))), fun _ s => s⟩
  · refine .seq ((.region (.v (.assign rfl) (.nil ?_))))
    exact .ret ⟨[_], ⟨rfl, trivial⟩, rfl⟩
def ord0 : Ord := ⟨0, 0, 0, 0, 0, 0, 0⟩
/-- an order of a book, and its side -/
def fnd (id : Int) (bs ss : List Ord) : Option (Int × Ord) :=
  if 0 ≤ idx id bs then bs[(idx id bs).toNat]?.map (fun o => (1, o)) else if 0 ≤ idx id ss then ss[(idx id ss).toNat]?.map (fun o => (2, o)) else none
def fndV : Option (Int × Ord) → Value
  | none => .tuple ⟨[.agg ⟨ord0.cells⟩, .int .i64 0, .bool false]⟩
  | some (s, o) => .tuple ⟨[.agg ⟨o.cells⟩, .int .i64 s, .bool true]⟩
set_option maxRecDepth 10000 in
theorem Find_ok (w : World) (b : Nat) (cap meet high seq id : Int) (A1 A2 : Option Addr) (c1 c2 : Nat) (bs ss : List Ord) (hb : Rd w [] (some ⟨b, 0, none⟩) (bcells cap meet (.slice A1 bs.length c1) (.slice A2 ss.length c2) high seq))
    (h1 : Rd w [] A1 (rows bs)) (h2 : Rd w [] A2 (rows ss)) (hb1 : bs.length ≤ 2513169434843) (hb2 : ss.length ≤ 2513169434843) :
    Is Try.prog 25 [.pointer (some ⟨b, 0, none⟩), .int .u64 id] w (fndV (fnd id bs ss)) := by
  refine Does.pure (Does.of (n := 29) Try.func25 rfl rfl rfl rfl ?_)
  refine .seq ((.region (.nw .alloc fun b4 => (.v (.assign rfl) (.v (.assign rfl) (.nil ?_))))))
  have hp : ∀ (w' : World) (hs : Hp), Sat w [] hs w' → Is Try.prog 41 [.pointer (some ⟨b, 0, none⟩), .int .u64 id] w' (plcV (plc id bs ss)) := fun w' hs s => place_ok w' b cap meet high seq id A1 A2 c1 c2 bs ss (hb.keep0 s) (h1.keep0 s) (h2.keep0 s) hb1 hb2
  rcases idx_spec id bs with ⟨e1, n1⟩ | ⟨i, hi, e1, hid, hb'⟩
  · rcases idx_spec id ss with ⟨e2, n2⟩ | ⟨i, hi, e2, hid, hb'⟩
    · have ep : plc id bs ss = (0, 0, false) := by unfold plc; rw [e1, e2]; rfl
      have ef : fnd id bs ss = none := by unfold fnd; rw [e1, e2]; rfl
      rw [ep] at hp
      rw [ef]
      refine .seq ((.region (.v (.move rfl) (.v (.move rfl) (.pc (v := plcV (0, 0, false)) rfl rfl (fun w s => hp w _ s) ?_)))))
      refine .v (.move rfl) (.v (.extract rfl rfl) (.v (.extract rfl rfl) (.v (.extract rfl rfl) (.v (.assign rfl) (.v (.assign rfl) (.v (.assign rfl) (.nil ?_)))))))
      refine .seq (.seq ((.region (.v (.move rfl) (.v (.not rfl) (.nil ?_))))))
      refine .cond rfl (fun _ => ?_) (fun h => absurd h (by simp))
      refine .seq ((.region (.v (.build (out := ord0.cells) rfl rfl) (.st (.sw rfl rfl) (.v (.assign rfl) (.v (.assign rfl) (.nil ?_)))))))
      exact .ret ⟨[_, _, _], ⟨⟨_, rfl, .inr ⟨7, _, inferInstance, rfl, rfl, .whole⟩⟩, rfl, rfl, trivial⟩, rfl⟩
    · have ep : plc id bs ss = (2, (i : Int), true) := by unfold plc; rw [e1, e2, if_neg (by omega), if_pos (by omega)]
      have ef : fnd id bs ss = some (2, ss[i]) := by unfold fnd; rw [e1, e2, if_neg (by omega), if_pos (by omega), Int.toNat_natCast, List.getElem?_eq_getElem hi]; rfl
      rw [ep] at hp
      rw [ef]
      obtain ⟨b', o', rfl, -, hc⟩ := Rd.ord h2 (by omega)
      have hc := hc i hi
      generalize ss[i] = o at *
      refine .seq ((.region (.v (.move rfl) (.v (.move rfl) (.pc (v := .tuple ⟨[.int .i64 2, .int .i64 i, .bool true]⟩) rfl rfl (fun w s => hp w _ s) ?_)))))
      refine .v (.move rfl) (.v (.extract rfl rfl) (.v (.extract rfl rfl) (.v (.extract rfl rfl) (.v (.assign rfl) (.v (.assign rfl) (.v (.assign rfl) (.nil ?_)))))))
      refine .seq (.seq ((.region (.v (.move rfl) (.v (.not rfl) (.nil ?_))))))
      refine .cond rfl (fun h => absurd h (by simp)) (fun _ => .skip ?_)
      refine .seq ((.region (.v (.move rfl) (.v (.move rfl) (.pc (v := .pointer (some ⟨b, 3, none⟩)) rfl rfl (fun w s => side_ok w b 2) ?_)))))
      refine .v (.nilCheck rfl) (.v (.load (v := .slice (some ⟨b', o', none⟩) ss.length c2) rfl (hb.cell (i := 3) rfl)) (.v (.move rfl) (.v (.indexAddr rfl rfl (by omega) (by omega)) (.v (.loadA (vs := o.cells) rfl (.old (fun j v hv => by rw [add_none, Int.toNat_natCast]; exact hc j v (List.getElem?_eq_some_iff.1 hv).1 hv) (by simp [bl])) rfl) (.v (.move rfl) (.st (.sw rfl rfl) (.v (.assign rfl) (.v (.assign rfl) (.nil ?_)))))))))
      exact .ret ⟨[_, _, _], ⟨⟨_, rfl, .inr ⟨7, _, inferInstance, rfl, rfl, .whole⟩⟩, rfl, rfl, trivial⟩, rfl⟩
  · have ep : plc id bs ss = (1, (i : Int), true) := by unfold plc; rw [e1, if_pos (by omega)]
    have ef : fnd id bs ss = some (1, bs[i]) := by unfold fnd; rw [e1, if_pos (by omega), Int.toNat_natCast, List.getElem?_eq_getElem hi]; rfl
    rw [ep] at hp
    rw [ef]
    obtain ⟨b', o', rfl, -, hc⟩ := Rd.ord h1 (by omega)
    have hc := hc i hi
    generalize bs[i] = o at *
    refine .seq ((.region (.v (.move rfl) (.v (.move rfl) (.pc (v := .tuple ⟨[.int .i64 1, .int .i64 i, .bool true]⟩) rfl rfl (fun w s => hp w _ s) ?_)))))
    refine .v (.move rfl) (.v (.extract rfl rfl) (.v (.extract rfl rfl) (.v (.extract rfl rfl) (.v (.assign rfl) (.v (.assign rfl) (.v (.assign rfl) (.nil ?_)))))))
    refine .seq (.seq ((.region (.v (.move rfl) (.v (.not rfl) (.nil ?_))))))
    refine .cond rfl (fun h => absurd h (by simp)) (fun _ => .skip ?_)
    refine .seq ((.region (.v (.move rfl) (.v (.move rfl) (.pc (v := .pointer (some ⟨b, 2, none⟩)) rfl rfl (fun w s => side_ok w b 1) ?_)))))
    refine .v (.nilCheck rfl) (.v (.load (v := .slice (some ⟨b', o', none⟩) bs.length c1) rfl (hb.cell (i := 2) rfl)) (.v (.move rfl) (.v (.indexAddr rfl rfl (by omega) (by omega)) (.v (.loadA (vs := o.cells) rfl (.old (fun j v hv => by rw [add_none, Int.toNat_natCast]; exact hc j v (List.getElem?_eq_some_iff.1 hv).1 hv) (by simp [bl])) rfl) (.v (.move rfl) (.st (.sw rfl rfl) (.v (.assign rfl) (.v (.assign rfl) (.nil ?_)))))))))
    exact .ret ⟨[_, _, _], ⟨⟨_, rfl, .inr ⟨7, _, inferInstance, rfl, rfl, .whole⟩⟩, rfl, rfl, trivial⟩, rfl⟩
set_option maxRecDepth 10000 in
theorem Load_ok (w : World) (b : Nat) (u0 u1 u2 u3 u4 u5 : Value) (cap meet high seq : Int) (A1 A2 : Option Addr) (c1 c2 : Nat) (bs ss : List Ord)
    (h1 : Rd w [b] A1 (rows bs)) (h2 : Rd w [b] A2 (rows ss)) (hw : ∀ o ∈ bs ++ ss, o.wf) (hb1 : bs.length ≤ 2513169434843) (hb2 : ss.length ≤ 2513169434843) (hv : vld cap meet high bs ss = 0) :
    Does Try.prog 26 [.pointer (some ⟨b, 0, none⟩), .agg ⟨bcells cap meet (.slice A1 bs.length c1) (.slice A2 ss.length c2) high seq⟩] [Tb b [u0, u1, u2, u3, u4, u5]] w
      (fun v hs => v = .int .i64 0 ∧ ∃ v1 v2 k1 k2, hs = Tb b (Bc ⟨cap, meet, bs, ss, high, seq⟩ v1 v2) :: (k1 ++ k2) ∧ Side v1 bs k1 ∧ Side v2 ss k2) := by
  refine Does.less (Does.of (n := 25) Try.func26 rfl rfl rfl rfl ?_)
  refine .seq ((.region (.nw (.box rfl rfl) fun b3 => (.v (.assign rfl) (.nil ?_)))))
  refine .seq ((.region (.v (.loadA (vs := bcells cap meet (.slice A1 bs.length c1) (.slice A2 ss.length c2) high seq) rfl .whole rfl) (.pc rfl rfl (fun w s => Valid_ok w cap meet high seq A1 A2 c1 c2 bs ss (h1.keep0 s) (h2.keep0 s) hw hb1 hb2) ?_))))
  rw [hv]
  refine .v (.assign rfl) (.nil ?_)
  refine .seq (.seq ((.region (.v (.move rfl) (.v (.nei rfl rfl) (.nil ?_))))))
  refine .cond_dec rfl (fun h => absurd rfl h) (fun _ => .skip ?_)
  refine .seq ((.region (.v (.move rfl) (.v (.loadA (vs := bcells cap meet (.slice A1 bs.length c1) (.slice A2 ss.length c2) high seq) rfl .whole rfl) ?_))))
  refine .ef (.call0 rfl rfl fun w s => copied_ok w cap meet high seq A1 A2 c1 c2 bs ss (h1.keep0 s) (h2.keep0 s) hb1 hb2) ?_
  rintro _ _ ⟨_, ⟨E1, E2, d1, d2, q1, q2, rfl, rfl, oe1, oe2⟩, rfl⟩
  refine .v (.nilCheck rfl) (.v (.fieldAddr rfl) (.st (.sw rfl rfl) (.nil ?_)))
  refine .seq ((.region (.v (.assign rfl) (.nil ?_))))
  exact .ret ⟨[_], ⟨rfl, trivial⟩, Tb b (Bc ⟨cap, meet, bs, ss, high, seq⟩ (.slice E1 bs.length d1) (.slice E2 ss.length d2)) :: (q1 ++ q2), fun _ s => Sat.take (pre := (b, Ch.cells (bcells cap meet (.slice E1 bs.length d1) (.slice E2 ss.length d2) high seq) 67) :: (q1 ++ q2)) s, rfl, _, _, q1, q2, rfl, oe1, oe2⟩
end Go.Proofs.Ytmfobfamdaajmaa

/- Plain: the kinds of orders; what a refusal changes. -/
namespace Go.Proofs.Ytmfobfamdaajmaa
open Go.V
set_option linter.unusedVariables false
set_option linter.unusedSimpArgs false

theorem fnd_none {id : Int} {bs ss : List Ord} (h : id ∉ ids (bs ++ ss)) : fnd id bs ss = none := by
  have hm : ∀ o ∈ bs ++ ss, o.id ≠ id := fun o ho e => h (List.mem_map.2 ⟨o, ho, e⟩)
  unfold fnd
  rw [idx_no (fun m hm' => hm _ (by simp)), idx_no (fun m hm' => hm _ (by simp))]
  rfl
theorem fnd_some {id : Int} {bs ss : List Ord} (h : id ∈ ids (bs ++ ss)) : ∃ p, fnd id bs ss = some p ∧ p.2 ∈ bs ++ ss ∧ p.2.id = id := by
  rcases idx_spec id bs with ⟨e1, n1⟩ | ⟨i, hi, e1, hid, _⟩
  · rcases idx_spec id ss with ⟨e2, n2⟩ | ⟨i, hi, e2, hid, _⟩
    · obtain ⟨o, ho, e⟩ := List.mem_map.1 h
      rcases List.mem_append.1 ho with ho | ho
      · obtain ⟨m, hm, rfl⟩ := List.mem_iff_getElem.1 ho; exact absurd e (n1 m hm)
      · obtain ⟨m, hm, rfl⟩ := List.mem_iff_getElem.1 ho; exact absurd e (n2 m hm)
    · exact ⟨(2, ss[i]), by unfold fnd; rw [e1, e2, if_neg (by omega), if_pos (by omega), Int.toNat_natCast, List.getElem?_eq_getElem hi]; rfl, by simp, hid⟩
  · exact ⟨(1, bs[i]), by unfold fnd; rw [e1, if_pos (by omega), Int.toNat_natCast, List.getElem?_eq_getElem hi]; rfl, by simp, hid⟩
theorem tsum_cons {e : Ev} (l : List Ev) (h : e.kind ≠ 3) : tsum (e :: l) = tsum l := by simp [tsum, h]
theorem tsum_two (l : List Ev) (a b : Ev) : tsum (l ++ [a, b]) = if b.kind = 3 then IntKind.u64.wrap (tsum (l ++ [a]) + b.q) else tsum (l ++ [a]) := by
  rw [show l ++ [a, b] = (l ++ [a]) ++ [b] from by simp, tsum_snoc]
theorem tsum_nil : tsum [] = 0 := rfl
/-- trading with events told before -/
def TS.pre (p : List Ev) (s : TS) : TS := ⟨s.L, s.left, s.seq, p ++ s.evs⟩
theorem step_pre (meet : Int) (t : Tk) (p : List Ev) (s : TS) : (s.pre p).step meet t = (s.step meet t).map (TS.pre p) := by
  obtain ⟨L, left, seq, evs⟩ := s
  cases L with
  | nil => rfl
  | cons f rest =>
    have hst : ∀ evs : List Ev, TS.step meet t ⟨f :: rest, left, seq, evs⟩ = if 0 < left ∧ reach t.side t.kind t.o.pr f.pr = true then some (if f.mb = t.o.mb ∧ t.o.mb ≠ 0 ∧ meet ≠ 0 then TS.meets meet t f rest ⟨f :: rest, left, seq, evs⟩ else TS.hit t f rest ⟨f :: rest, left, seq, evs⟩) else none := fun _ => rfl
    show TS.step meet t ⟨f :: rest, left, seq, p ++ evs⟩ = _
    rw [hst, hst]
    by_cases hc : 0 < left ∧ reach t.side t.kind t.o.pr f.pr = true
    · rw [if_pos hc, if_pos hc, Option.map_some]
      congr 1
      by_cases hm : f.mb = t.o.mb ∧ t.o.mb ≠ 0 ∧ meet ≠ 0
      · rw [if_pos hm, if_pos hm]
        simp only [TS.meets]
        by_cases m1 : meet = 1 <;> by_cases m2 : meet = 2 <;> simp [TS.tell, TS.pre, m1, m2]
      · rw [if_neg hm, if_neg hm]
        simp only [TS.hit]
        by_cases c1 : min left f.v < f.v <;> by_cases c2 : 0 < f.hd <;> simp [TS.tell, TS.pre, c1, c2]
    · rw [if_neg hc, if_neg hc]; rfl
theorem TRun.pre {meet : Int} {t : Tk} {s z : TS} (p : List Ev) (h : TRun meet t s z) : TRun meet t (s.pre p) (z.pre p) := by
  induction h with
  | stop hs => exact .stop (by rw [step_pre, hs]; rfl)
  | step hs _ ih => exact .step (by rw [step_pre, hs]; rfl) ih
theorem pre_ok {s : TS} (p : List Ev) (h : s.Ok) : (s.pre p).Ok := ⟨h.good, h.lo, h.hi⟩
theorem tr_pre {meet : Int} {t : Tk} {s : TS} (p : List Ev) (h : s.Ok) : tr meet t (s.pre p) = (tr meet t s).pre p := ((tr_run h).pre p).eq (pre_ok p h) |>.symm
/-- a taker's kind: Market or another -/
theorem step_kind (meet : Int) {t1 t2 : Tk} (s : TS) (h1 : t1.o.id = t2.o.id) (h2 : t1.o.mb = t2.o.mb) (h3 : t1.o.pr = t2.o.pr) (h4 : t1.side = t2.side) (h5 : t1.kind = 2 ↔ t2.kind = 2) : s.step meet t1 = s.step meet t2 := by
  have hr : ∀ p, reach t1.side t1.kind t1.o.pr p = reach t2.side t2.kind t2.o.pr p := fun p => by unfold reach; rw [h4, h3, decide_eq_decide.2 h5]
  obtain ⟨L, left, seq, evs⟩ := s
  cases L with
  | nil => rfl
  | cons f rest =>
    have hst : ∀ t : Tk, TS.step meet t ⟨f :: rest, left, seq, evs⟩ = if 0 < left ∧ reach t.side t.kind t.o.pr f.pr = true then some (if f.mb = t.o.mb ∧ t.o.mb ≠ 0 ∧ meet ≠ 0 then TS.meets meet t f rest ⟨f :: rest, left, seq, evs⟩ else TS.hit t f rest ⟨f :: rest, left, seq, evs⟩) else none := fun _ => rfl
    rw [hst, hst]
    rw [hr f.pr]
    simp only [TS.meets, TS.hit, h1, h2, h4]
theorem TRun.kind {meet : Int} {t1 t2 : Tk} {s z : TS} (h : TRun meet t1 s z) (h1 : t1.o.id = t2.o.id) (h2 : t1.o.mb = t2.o.mb) (h3 : t1.o.pr = t2.o.pr) (h4 : t1.side = t2.side) (h5 : t1.kind = 2 ↔ t2.kind = 2) : TRun meet t2 s z := by
  induction h with
  | stop hs => exact .stop (by rw [← step_kind meet _ h1 h2 h3 h4 h5]; exact hs)
  | step hs _ ih => exact .step (by rw [← step_kind meet _ h1 h2 h3 h4 h5]; exact hs) ih
/-- what is left and what was traded, together -/
theorem step_sum {meet : Int} {t : Tk} {s s' : TS} (h : s.Ok) (hs : s.step meet t = some s') (h0 : 0 ≤ tsum s.evs) (h1 : s.left + tsum s.evs ≤ 4294967295) :
    0 ≤ tsum s'.evs ∧ s'.left + tsum s'.evs ≤ s.left + tsum s.evs := by
  obtain ⟨L, left, seq, evs⟩ := s
  obtain ⟨hg, hlo, hhi⟩ := h
  unfold TS.step at hs
  simp only at hs hg hlo hhi h0 h1
  cases L with
  | nil => cases hs
  | cons f rest =>
    simp only at hs
    split at hs
    · rename_i hc
      have hfG := hg f (by simp)
      have hv : 1 ≤ f.v := hfG.1
      have hw : IntKind.u64.wrap (tsum evs + min left f.v) = tsum evs + min left f.v := wrap_u64_in (by omega)
      simp only [Option.some.injEq] at hs
      subst hs
      split
      · simp only [TS.meets]
        by_cases m1 : meet = 1
        · rw [if_pos m1, if_neg (show ¬ meet = 2 by omega)]
          simp [TS.tell, tsum_snoc, evCancel, Ev.num]; omega
        · rw [if_neg m1]
          by_cases m2 : meet = 2
          · rw [if_pos m2]; simp [TS.tell, tsum_snoc, evCancel, Ev.num]; omega
          · rw [if_neg m2]
            simp [TS.tell, tsum_two, tsum_snoc, evCancel, Ev.num]; omega
      · simp only [TS.hit]
        split
        · simp [TS.tell, tsum_snoc, evTrade, Ev.num, hw]; omega
        · split
          · have e : ∀ (x y : Ev), tsum (evs ++ [x, y]) = tsum ((evs ++ [x]) ++ [y]) := fun x y => by simp
            simp [TS.tell, tsum_two, tsum_snoc, evTrade, evRefresh, Ev.num, hw]; omega
          · simp [TS.tell, tsum_snoc, evTrade, Ev.num, hw]; omega
    · cases hs
theorem TRun.sum {meet : Int} {t : Tk} {s z : TS} (hr : TRun meet t s z) (h : s.Ok) (h0 : 0 ≤ tsum s.evs) (h1 : s.left + tsum s.evs ≤ 4294967295) : 0 ≤ tsum z.evs ∧ z.left + tsum z.evs ≤ s.left + tsum s.evs := by
  induction hr with
  | stop _ => exact ⟨h0, Int.le_refl _⟩
  | step hs _ ih =>
    obtain ⟨a1, a2⟩ := step_sum h hs h0 h1
    obtain ⟨b1, b2⟩ := ih (h.step hs).1 a1 (by omega)
    exact ⟨b1, by omega⟩
/-- the order of a New -/
def newTk (c : Cm) : Tk := ⟨⟨c.id, c.mb, c.ty, c.pr, 0, 0, c.pk⟩, c.sd, c.ty, c.q⟩
theorem cmg_new {c : Cm} (tg : Option Ord) (side : Int) (h : c.k = 1) : cmg c tg side = newTk c := by
  unfold cmg
  cases tg with
  | none => rfl
  | some o => simp only; rw [if_neg (by omega)]; rfl
theorem does_new {B : Bk} {c : Cm} (h0 : B.why c = 0) (h1 : c.k = 1) : B.does c = Bk.comes ((B.num (nx B.seq)).top c.id) [(evAck (newTk c)).num (nx B.seq)] (newTk c) := by
  have hg : B.goes c = B := by unfold Bk.goes; rw [if_neg (by omega)]
  have hn : B.gone c = [] := by unfold Bk.gone; rw [if_neg (by omega)]
  unfold Bk.does
  rw [if_neg (by omega), if_pos (by omega), cmg_new _ _ h1, hg, hn]
  rfl
theorem does_no {B : Bk} {c : Cm} (h0 : B.why c ≠ 0) : B.does c = (B.num (nx B.seq), [(evReject (if c.k = 2 then 0 else c.id) (if c.k = 1 then 0 else c.tg) (B.why c)).num (nx B.seq)]) := by
  unfold Bk.does; rw [if_pos h0]
/-- the first event: no refusal -/
theorem does_head {B : Bk} {c : Cm} (h : B.Vl) (hw : c.wf) (h0 : B.why c = 0) : ∃ e l, (B.does c).2 = e :: l ∧ e.kind ≠ 2 := by
  obtain ⟨z1, z2, z3, z4, z5⟩ := rfs_zero h0
  have hk := chk_kinds (c := c) (by rw [z2]; decide)
  have hgone : c.k ≠ 1 → ∃ e, B.gone c = [e] ∧ e.kind = 4 := fun h1 => by
    unfold Bk.gone
    rw [if_pos h1]
    cases ht : B.tgt c with
    | none => exact absurd ht (z1 h1)
    | some o => exact ⟨_, rfl, rfl⟩
  unfold Bk.does
  rw [if_neg (by omega)]
  by_cases h2 : c.k ≠ 2
  · rw [if_pos h2]
    obtain ⟨hV, hlt⟩ := cmg_V h hw h0 h2
    have hgv := goes_vl (c := c) h z1
    have hgc := goes_cap B c
    generalize cmg c (B.tgt c) (B.at_ c).1 = t at *
    obtain ⟨l, a1, _⟩ := comes_evs (B := ((B.goes c).num (nx (B.goes c).seq)).top t.o.id) (evs := B.gone c ++ [(evAck t).num (nx (B.goes c).seq)]) (t := t) (ts_ok' (top_vl (num_vl _ hgv) (by show (B.goes c).high ≤ _; rw [hgc.2.2]; omega)) hV)
    rw [a1]
    by_cases h1 : c.k = 1
    · have hn : B.gone c = [] := by unfold Bk.gone; rw [if_neg (by omega)]
      rw [hn]
      exact ⟨_, _, rfl, by show (1 : Int) ≠ 2; decide⟩
    · obtain ⟨e, he, hke⟩ := hgone h1
      rw [he]
      exact ⟨e, _, rfl, by omega⟩
  · rw [if_neg h2]
    obtain ⟨e, he, hke⟩ := hgone (by omega)
    exact ⟨e, [], he, by omega⟩
/-- what a kind of order may do -/
structure KindOk (ty q id : Int) (B' : Bk) (evs : List Ev) : Prop where
  goes : ty = 2 ∨ ty = 3 ∨ ty = 4 → fnd id B'.bs B'.ss = none
  fok : ty = 4 → tsum evs = 0 ∨ tsum evs = q
  post : ty = 5 → (fnd id B'.bs B'.ss).isSome = true ∧ tsum evs = 0
theorem put_ids {B : Bk} {s : Int} {o : Ord} (hs : s = 1 ∨ s = 2) : o.id ∈ ids ((B.put s (rst s o (B.side s))).bs ++ (B.put s (rst s o (B.side s))).ss) := by
  refine List.mem_map.2 ⟨o, ?_, rfl⟩
  have := (rst_perm s o (B.side s)).mem_iff (a := o)
  rcases hs with rfl | rfl
  · exact List.mem_append_left _ (this.2 (by simp))
  · exact List.mem_append_right _ (this.2 (by simp))
theorem does_kind {B : Bk} {c : Cm} (h : B.Vl) (hw : c.wf) (h0 : B.why c = 0) (h1 : c.k = 1) : KindOk c.ty c.q c.id (B.does c).1 (B.does c).2 := by
  obtain ⟨z1, z2, z3, z4, z5⟩ := rfs_zero h0
  obtain ⟨s1, s2, s3, s4, s5, s6, s7, s8⟩ := chk_sized z2 (by omega) hw
  obtain ⟨hV, hlt⟩ := cmg_V h hw h0 (by omega)
  have hg : B.goes c = B := by unfold Bk.goes; rw [if_neg (by omega)]
  rw [hg, cmg_new _ _ h1] at hV
  rw [cmg_new _ _ h1] at hlt
  rw [does_new h0 h1]
  have hB0 : ((B.num (nx B.seq)).top c.id).Vl := top_vl (num_vl _ h) (Int.le_of_lt hlt)
  have hV : (newTk c).V ((B.num (nx B.seq)).top c.id) := hV
  generalize (B.num (nx B.seq)).top c.id = B0 at *
  have hack : ((evAck (newTk c)).num (nx B.seq)).kind ≠ 3 := by show (1 : Int) ≠ 3; decide
  generalize (evAck (newTk c)).num (nx B.seq) = ack at *
  have hOk := ts_ok' (evs := [ack]) hB0 hV
  have hOk0 := ts_ok' (evs := []) hB0 hV
  have hpre : B0.ts [ack] (newTk c) = (B0.ts [] (newTk c)).pre [ack] := rfl
  have hrun0 := tr_run (meet := B0.meet) (t := newTk c) hOk0
  have hrun := hrun0.pre [ack]
  have htr : tr B0.meet (newTk c) (B0.ts [ack] (newTk c)) = (tr B0.meet (newTk c) (B0.ts [] (newTk c))).pre [ack] := tr_pre [ack] hOk0
  obtain ⟨y1, y2⟩ := hrun0.sum hOk0 (by show 0 ≤ tsum []; decide) (by show c.q + tsum [] ≤ _; rw [tsum_nil]; omega)
  have hfresh : c.id ∉ ids (B0.bs ++ B0.ss) := fun hm => by have := hV.fresh _ hm; exact absurd this (Int.lt_irrefl _)
  obtain ⟨zok, zlen, _, zl⟩ := hrun.ok (pre_ok _ hOk0)
  have hstop : c.ty = 5 → tr B0.meet (newTk c) (B0.ts [] (newTk c)) = B0.ts [] (newTk c) := fun h5 => by
    have hp := hV.post h5
    refine (TRun.det (TRun.stop ?_) hrun0).symm
    unfold TS.step Bk.ts
    simp only
    cases hL : B0.side (3 - (newTk c).side) with
    | nil => rfl
    | cons f L =>
      rw [hL] at hp
      have hp : reach (newTk c).side (newTk c).kind (newTk c).o.pr f.pr = false := hp
      simp only [hp]; simp
  unfold Bk.comes
  rw [htr]
  obtain ⟨v1, v2, v3, v4, v5⟩ := traded_vl hB0 hV.sd hrun zlen
  generalize tr B0.meet (newTk c) (B0.ts [] (newTk c)) = z at *
  have hk : (newTk c).kind = c.ty := rfl
  have hq : (newTk c).left = c.q := rfl
  have hts : tsum (z.pre [ack]).evs = tsum z.evs := tsum_cons z.evs hack
  have hfr2 : c.id ∉ ids ((B0.traded (newTk c) (z.pre [ack])).bs ++ (B0.traded (newTk c) (z.pre [ack])).ss) := fun hm => hfresh (v2 hm)
  have hzl : (z.pre [ack]).left = z.left := rfl
  split
  · rename_i hc
    refine ⟨fun _ => fnd_none hfresh, fun _ => .inl ?_, fun h5 => by omega⟩
    rw [List.singleton_append, tsum_cons _ hack]
    rfl
  · rename_i hc
    simp only
    split
    · rename_i hl
      refine ⟨fun _ => fnd_none hfr2, fun h4 => .inr ?_, fun h5 => ?_⟩
      · have : tsum z.evs = c.q := Decidable.of_not_not fun e => hc ⟨h4, e⟩
        show tsum (z.pre [ack]).evs = c.q
        rw [hts]; exact this
      · rw [hstop h5] at hl
        have : (newTk c).left = 0 := hl
        omega
    · rename_i hl
      split
      · rename_i hkk
        refine ⟨fun _ => fnd_none hfr2, fun h4 => .inr ?_, fun h5 => by omega⟩
        have : tsum z.evs = c.q := Decidable.of_not_not fun e => hc ⟨h4, e⟩
        rw [tsum_snoc, if_neg (by show ¬ (4 : Int) = 3; decide)]
        show tsum (z.pre [ack]).evs = c.q
        rw [hts]; exact this
      · rename_i hkk
        refine ⟨fun h234 => by omega, fun h4 => by omega, fun h5 => ⟨?_, ?_⟩⟩
        · have := put_ids (B := B0.traded (newTk c) (z.pre [ack])) (s := (newTk c).side) (o := restOf (newTk c).o (z.pre [ack]).left) hV.sd
          obtain ⟨p, hp, _⟩ := fnd_some this
          have e : (restOf (newTk c).o (z.pre [ack]).left).id = c.id := rfl
          rw [e] at hp
          show (fnd c.id _ _).isSome = true
          rw [hp]; rfl
        · show tsum (z.pre [ack]).evs = 0
          rw [hts, hstop h5]; rfl
end Go.Proofs.Ytmfobfamdaajmaa

/- The law RulesSound: its walk. -/
namespace Go.Proofs.Ytmfobfamdaajmaa
open Go.V
set_option linter.unusedVariables false
set_option linter.unusedSimpArgs false

theorem Side.ld {w0 : World} {own : List Nat} {b o n c i j : Nat} {l : List Ord} {h hs : Hp} {v : Value} (k : Side (.slice (some ⟨b, o, none⟩) n c) l h) (hh : h ⊆ hs) (hi : i < l.length) (hj : j < 7) (hv : (l[i].cells)[j]? = some v) : At w0 own hs ⟨b, o + i * 7 + j, none⟩ [v] := by
  rw [Nat.add_assoc]
  exact OwnS.at1 k hh (by rw [rows_get l i j hi hj]; exact hv)
theorem Sd.at {s : Int} {l : List Ord} (h : Sd s l) {k : Nat} (hk : k + 1 < l.length) : bet s l[k + 1].pr l[k].pr = false := List.pairwise_iff_getElem.1 h k (k + 1) (by omega) hk (by omega)
abbrev Bx (b : Nat) (cc cm : Int) : Nat × Ch := (b, .cells [.int .i64 cc, .int .i64 cm] 27)
def BS.V (x : BS) (n : Nat) (cc : Int) : Prop := x.i ≤ n ∧ x.B.Vl ∧ x.B.cap = cc ∧ Side x.v1 x.B.bs x.k1 ∧ Side x.v2 x.B.ss x.k2
theorem does_cap (B : Bk) (c : Cm) : (B.does c).1.cap = B.cap ∧ (B.does c).1.meet = B.meet := by
  have hg := goes_cap B c
  unfold Bk.does
  split
  · exact ⟨rfl, rfl⟩
  · split
    · unfold Bk.comes
      split
      · exact ⟨hg.1, hg.2.1⟩
      · simp only
        split
        · unfold Bk.traded
          have := (((B.goes c).num (nx (B.goes c).seq)).top (cmg c (B.tgt c) (B.at_ c).1).o.id).put_cap (3 - (cmg c (B.tgt c) (B.at_ c).1).side)
          refine ⟨(this _).1.trans hg.1, (this _).2.1.trans hg.2.1⟩
        · split
          · unfold Bk.traded
            have := (((B.goes c).num (nx (B.goes c).seq)).top (cmg c (B.tgt c) (B.at_ c).1).o.id).put_cap (3 - (cmg c (B.tgt c) (B.at_ c).1).side)
            refine ⟨(this _).1.trans hg.1, (this _).2.1.trans hg.2.1⟩
          · have := (((B.goes c).num (nx (B.goes c).seq)).top (cmg c (B.tgt c) (B.at_ c).1).o.id).put_cap (3 - (cmg c (B.tgt c) (B.at_ c).1).side)
            refine ⟨(Bk.put_cap _ _ _).1.trans ((this _).1.trans hg.1), (Bk.put_cap _ _ _).2.1.trans ((this _).2.1.trans hg.2.1)⟩
    · exact ⟨hg.1, hg.2.1⟩
set_option maxRecDepth 10000 in
theorem RulesSound_ok (w : World) (cc cm : Int) (A : Option Addr) (len cap : Nat) (l : List Cm) (hl : len = l.length) (hA : Rd w [] A (crows l)) (hb : len ≤ 4503599627370496) (hw : ∀ c ∈ l, c.wf) :
    Is Try.prog 8 [.agg ⟨[.int .i64 cc, .int .i64 cm]⟩, .slice A len cap] w (.bool true) := by
  refine Does.pure (Does.of (n := 129) Try.func8 rfl rfl rfl rfl ?_)
  refine .seq ((.region (.nw (.box rfl rfl) fun b2 => (.v (.assign rfl) (.nil ?_)))))
  refine .seq ((.region (.v (.loadA (vs := [.int .i64 cc, .int .i64 cm]) rfl .whole rfl) ?_)))
  refine .ef (.call0 rfl rfl fun w s => begun_ok w cc cm) ?_
  rintro _ _ ⟨_, hN, rfl⟩
  by_cases hc : Cfg cc cm
  case neg =>
    rw [if_neg hc] at hN
    obtain ⟨rfl, rfl⟩ := hN
    refine .v (.move rfl) (.v (.extract rfl rfl) (.v (.extract rfl rfl) (.v (.assign rfl) (.v (.assign rfl) (.nil ?_)))))
    refine .seq (.seq ((.region (.v (.move rfl) (.v (.eql_ptr_nil rfl rfl) (.v (.move rfl) (.or (b2 := false) 18 20 2 2 rfl rfl (fun g1 => absurd g1 (by simp)) (.nil ?_))))))))
    refine .cond rfl (fun _ => ?_) (fun h => absurd h (by simp))
    refine .seq ((.region (.v (.move rfl) (.v (.assign rfl) (.nil ?_)))))
    exact .ret ⟨[_], ⟨rfl, trivial⟩, rfl⟩
  rw [if_pos hc] at hN
  obtain ⟨b, rfl, rfl⟩ := hN
  refine .v (.move rfl) (.v (.extract rfl rfl) (.v (.extract rfl rfl) (.v (.assign rfl) (.v (.assign rfl) (.nil ?_)))))
  refine .seq (.seq ((.region (.v (.move rfl) (.v (.eql_ptr_nil rfl rfl) (.v (.move rfl) (.or 18 20 2 2 rfl rfl (fun g1 => .v (.move rfl) (.v (.not rfl) (.nil ⟨rfl, rfl, rfl, rfl⟩))) (.nil ?_))))))))
  refine .cond rfl (fun h => absurd h (by simp)) (fun _ => .skip ?_)
  refine .seq (.seq ((.region (.v (.assign rfl) (.nil ?_)))))
  refine .block (.loop (X := BS) (fun x => [(1, .slice A len cap), (2, .pointer (some ⟨b2, 0, none⟩)), (5, .pointer (some ⟨b, 0, none⟩)), (7, .int .i64 x.i)]) (fun x => Bx b2 cc cm :: x.H b) (fun x => x.V len cc) (fun x => len - x.i)
    ⟨0, newB cc cm, .slice none 0 0, .slice none 0 0, [], []⟩ ⟨by simp, newB_vl hc, rfl, OwnS.nil _ _, OwnS.nil _ _⟩ (.cons rfl (.cons rfl (.cons rfl (.cons rfl (.nil _))))) (fun _ s => Sat.take (pre := Bx b2 cc cm :: Tb b (Bc (newB cc cm) (.slice none 0 0) (.slice none 0 0)) :: ([] ++ [])) s) ?_)
  rintro ⟨i, B, v1, v2, k1, k2⟩ ⟨hi, hI, hcap0, h1, h2⟩
  dsimp only at hi hI hcap0 h1 h2 ⊢
  refine .seq (.seq ((.region (.v (.move rfl) (.v (.move rfl) (.v (.len rfl) (.v (.lss rfl rfl) (.nil ?_))))))))
  refine .cond_dec rfl (fun g2 => .skip ?_) (fun g2 => .exit ?_)
  · have hil : i < l.length := by omega
    obtain ⟨ba, oa, rfl, hat⟩ := Rd.cm hA (by omega)
    have hcw := hw _ (List.getElem_mem hil)
    have hat := hat i hil
    generalize l[i] = c at hat hcw
    have hI' := does_vl hI hcw
    have hcap' := (does_cap B c).1.trans hcap0
    refine .seq (.block (.seq ((.region (.v (.move rfl) (.v (.move rfl) (.v (.move rfl) (.v (.indexAddr rfl rfl (by omega) (by omega)) (.v (.loadA (vs := c.cells) rfl (hat _ _ (by simp [bl])) rfl) ?_)))))))))
    refine .ef (.callT (Tb b (Bc B v1 v2) :: (k1 ++ k2)) rfl rfl (fun w s => Does.call_Do w b B hI.inv.ok c hcw.2.1 hcw.2.2 v1 v2 k1 k2 h1 h2)) ?_
    generalize hB : B.does c = D at hI' hcap'
    obtain ⟨B', evs⟩ := D
    rintro _ _ ⟨_, ⟨A', c', v1', v2', k1', k2', ke, rfl, rfl, h1', h2', hE⟩, rfl⟩
    dsimp only at hI' hcap' h1' h2' hE ⊢
    clear hB hE hI h1 h2 hcap0
    refine .nil ?_
    refine .keep (Bx b2 cc cm :: (Tb b (Bc B' v1' v2') :: (k1' ++ k2'))) ?_
    obtain ⟨A1, c1, rfl⟩ := OwnS.sl h1'
    obtain ⟨A2, c2, rfl⟩ := OwnS.sl h2'
    have hlen := hI'.len
    have hcapb := hI'.inv.hi
    refine .seq ((.region (.v (.move rfl) ?_)))
    refine .ef (.call0 rfl rfl fun w s => Book_ok w b B'.cap B'.meet B'.high B'.seq A1 A2 c1 c2 B'.bs B'.ss (Rd.chunk s (T := 67) (l := Bc B' (.slice A1 B'.bs.length c1) (.slice A2 B'.ss.length c2)) (by simp) (fun j v hv => by rw [Nat.zero_add]; exact hv)) (OwnS.rd h1' s (no := []) (fun p hp => by simp [hp]) (by simp)) (OwnS.rd h2' s (no := []) (fun p hp => by simp [hp]) (by simp)) (by omega) (by omega)) ?_
    rintro _ _ ⟨_, ⟨E1, E2, d1, d2, q1, q2, rfl, rfl, oe1, oe2⟩, rfl⟩
    refine .nw .alloc fun b8 => (.st (.sw rfl rfl) (.nil ?_))
    refine .heap (hs' := (b8, .cells (bcells B'.cap B'.meet (.slice E1 B'.bs.length d1) (.slice E2 B'.ss.length d2) B'.high B'.seq) 30) :: ((q2 ++ q1) ++ (Bx b2 cc cm :: Tb b (Bc B' (.slice A1 B'.bs.length c1) (.slice A2 B'.ss.length c2)) :: (k1' ++ k2')))) (fun _ s => s) ?_
    refine .seq (.seq ((.drawK _ (fun _ h => h) (by kernel_rfl) (by kernel_rfl) ?_)))
    refine .v (fun _ f => .fieldAddr rfl) (.v (fun _ f => .load (v := .slice E1 B'.bs.length d1) rfl (.one (hb := .sub f) rfl)) (.v (fun _ f => .len rfl) (.v (fun _ f => .fieldAddr rfl) (.v (fun _ f => .load (v := .slice E2 B'.ss.length d2) rfl (.one (hb := .sub f) rfl)) (.v (fun _ f => .len rfl) (.v (fun _ f => .addi rfl rfl (by omega)) (.v (fun _ f => .fieldAddr rfl) (.v (fun _ f => .load (v := .int .i64 cc) rfl (.one (hb := .sub f) rfl)) (.v (fun _ f => .gtr rfl rfl) (.v (fun _ f => .move rfl) ?_))))))))))
    refine .or 47 57 10 10 rfl rfl (fun g2 => .v (fun _ f => .fieldAddr rfl) (.v (fun _ f => .load (v := .slice E1 B'.bs.length d1) rfl (.one (hb := .sub f) rfl)) (.v (fun _ f => .len rfl) (.v (fun _ f => .fieldAddr rfl) (.v (fun _ f => .load (v := .slice E2 B'.ss.length d2) rfl (.one (hb := .sub f) rfl)) (.v (fun _ f => .len rfl) (.v (fun _ f => .addi rfl rfl (by omega)) (.v (fun _ f => .move rfl) (.pc rfl rfl (fun w s => Len_is w b B'.cap B'.meet B'.high B'.seq A1 A2 B'.bs.length B'.ss.length c1 c2 (Rd.chunk s (T := 67) (l := Bc B' (.slice A1 B'.bs.length c1) (.slice A2 B'.ss.length c2)) (by simp) (fun j v hv => by rw [Nat.zero_add]; exact hv)) (by omega) (by omega)) (.v (fun _ f => .nei rfl rfl) (.nil ⟨rfl, rfl, rfl, rfl⟩))))))))))) ?_
    refine .v (fun _ f => .move rfl) (.or 59 62 3 3 rfl rfl (fun g3 => .v (fun _ f => .loadA (vs := bcells B'.cap B'.meet (.slice E1 B'.bs.length d1) (.slice E2 B'.ss.length d2) B'.high B'.seq) rfl (.whole (hb := .sub f)) rfl) (.pc rfl rfl (fun w s => Valid_ok w B'.cap B'.meet B'.high B'.seq E1 E2 d1 d2 B'.bs B'.ss (OwnS.rd oe1 s (no := []) (fun p hp => by simp [hp]) (by simp)) (OwnS.rd oe2 s (no := []) (fun p hp => by simp [hp]) (by simp)) (fun o ho => (hI'.rests o ho).2) (by omega) (by omega)) (.v (fun _ f => .nei rfl rfl) (.nil ⟨rfl, rfl, rfl, rfl⟩)))) (.nil ?_))
    refine .cond rfl (fun h => ?_) (fun _ => .skip ?_)
    · exfalso
      rw [hI'.vld] at h
      simp at h
      omega
    have hF : ∀ (b o n c i : Nat) (q : Hp) (ls : List Ord) (j : Nat) (v : Value) (w0 : World) (own : List Nat) (hs : Hp), Side (.slice (some ⟨b, o, none⟩) n c) ls q → q ⊆ hs → (hi : i < ls.length) → j < 7 → (ls[i].cells)[j]? = some v → At w0 own hs ⟨b, o + i * 7 + j, none⟩ [v] := fun b o n c i q ls j v w0 own hs k hh hi hj hv => Side.ld k hh hi hj hv
    have hcross : ¬ (0 < B'.bs.length ∧ 0 < B'.ss.length ∧ ∃ x ∈ B'.bs, ∃ y ∈ B'.ss, y.pr ≤ x.pr) := fun ⟨_, _, x, hx, y, hy, e⟩ => by have := hI'.cross x hx y hy; omega
    refine .mid (X := Unit) (fun _ => [(1, .slice (some ⟨ba, oa, none⟩) len cap), (2, .pointer (some ⟨b2, 0, none⟩)), (5, .pointer (some ⟨b, 0, none⟩)), (7, .int .i64 i), (8, .pointer (some ⟨b8, 0, none⟩))]) (fun _ => (b8, .cells (bcells B'.cap B'.meet (.slice E1 B'.bs.length d1) (.slice E2 B'.ss.length d2) B'.high B'.seq) 30) :: ((q2 ++ q1) ++ (Bx b2 cc cm :: Tb b (Bc B' (.slice A1 B'.bs.length c1) (.slice A2 B'.ss.length c2)) :: (k1' ++ k2'))))
      (fun _ => True) ?_ ?_
    · by_cases hp : 0 < B'.bs.length ∧ 0 < B'.ss.length
      · obtain ⟨hp1, hp2⟩ := hp
        obtain ⟨e1, o1, l1, rfl, -⟩ := oe1.some_ hp1
        obtain ⟨e2, o2, l2, rfl, -⟩ := oe2.some_ hp2
        refine .seq ((.drawK _ (fun _ h => h) (by kernel_rfl) (by kernel_rfl) ?_))
        refine .v (fun _ f => .fieldAddr rfl) (.v (fun _ f => .load (v := .slice (some ⟨e1, o1, none⟩) B'.bs.length d1) rfl (.one (hb := .sub f) rfl)) (.v (fun _ f => .len rfl) (.v (fun _ f => .gtr rfl rfl) (.v (fun _ f => .move rfl) ?_))))
        refine .and 68 72 4 4 rfl rfl (fun g4 => .v (fun _ f => .fieldAddr rfl) (.v (fun _ f => .load (v := .slice (some ⟨e2, o2, none⟩) B'.ss.length d2) rfl (.one (hb := .sub f) rfl)) (.v (fun _ f => .len rfl) (.v (fun _ f => .gtr rfl rfl) (.nil ⟨rfl, rfl, rfl, rfl⟩))))) ?_
        refine .v (fun _ f => .move rfl) (.and 74 85 11 11 rfl rfl (fun g5 => .v (fun _ f => .fieldAddr rfl) (.v (fun _ f => .load (v := .slice (some ⟨e1, o1, none⟩) B'.bs.length d1) rfl (.one (hb := .sub f) rfl)) (.v (fun _ f => .indexAddr rfl rfl (by omega) (by omega)) (.v (fun _ f => .fieldAddr rfl) (.v (fun _ f => .load (v := .int .i64 (B'.bs[0]'hp1).pr) rfl (Side.ld (i := 0) (j := 3) oe1 (fun p hp => f (by simp [hp])) hp1 (by omega) rfl)) (.v (fun _ f => .fieldAddr rfl) (.v (fun _ f => .load (v := .slice (some ⟨e2, o2, none⟩) B'.ss.length d2) rfl (.one (hb := .sub f) rfl)) (.v (fun _ f => .indexAddr rfl rfl (by omega) (by omega)) (.v (fun _ f => .fieldAddr rfl) (.v (fun _ f => .load (v := .int .i64 (B'.ss[0]'hp2).pr) rfl (Side.ld (i := 0) (j := 3) oe2 (fun p hp => f (by simp [hp])) hp2 (by omega) rfl)) (.v (fun _ f => .geq rfl rfl) (.nil ⟨rfl, rfl, rfl, rfl⟩)))))))))))) (.nil ?_))
        refine .cond rfl (fun h => ?_) (fun _ => ?_)
        · exfalso
          have := hI'.cross _ (List.getElem_mem hp1) _ (List.getElem_mem hp2)
          simp at h
          omega
        · exact .skip ⟨(), trivial, .cons rfl (.cons rfl (.cons rfl (.cons rfl (.cons rfl (.nil _))))), fun _ s => s⟩
      · refine .seq ((.drawK _ (fun _ h => h) (by kernel_rfl) (by kernel_rfl) ?_))
        refine .v (fun _ f => .fieldAddr rfl) (.v (fun _ f => .load (v := .slice E1 B'.bs.length d1) rfl (.one (hb := .sub f) rfl)) (.v (fun _ f => .len rfl) (.v (fun _ f => .gtr rfl rfl) (.v (fun _ f => .move rfl) ?_))))
        refine .and 68 72 4 4 rfl rfl (fun g4 => .v (fun _ f => .fieldAddr rfl) (.v (fun _ f => .load (v := .slice E2 B'.ss.length d2) rfl (.one (hb := .sub f) rfl)) (.v (fun _ f => .len rfl) (.v (fun _ f => .gtr rfl rfl) (.nil ⟨rfl, rfl, rfl, rfl⟩))))) ?_
        refine .v (fun _ f => .move rfl) (.and (b2 := false) 74 85 11 11 rfl rfl (fun g5 => False.elim (by simp only [Bool.and_eq_true, Bool.or_eq_true, Bool.not_eq_true', Bool.and_eq_false_iff, Bool.or_eq_false_iff, Bool.not_eq_false', decide_eq_true_eq, decide_eq_false_iff_not, Bool.false_eq_true, false_iff] at g5; omega)) (.nil ?_))
        refine .cond rfl (fun h => absurd h (by simp)) (fun _ => ?_)
        exact .skip ⟨(), trivial, .cons rfl (.cons rfl (.cons rfl (.cons rfl (.cons rfl (.nil _))))), fun _ s => s⟩
    · rintro ⟨⟩ -
      refine .seq (.seq ((.region (.v (.assign rfl) (.nil ?_)))))
      refine .block (.loop (X := Nat) (fun k => [(1, .slice (some ⟨ba, oa, none⟩) len cap), (2, .pointer (some ⟨b2, 0, none⟩)), (5, .pointer (some ⟨b, 0, none⟩)), (7, .int .i64 i), (8, .pointer (some ⟨b8, 0, none⟩)), (9, .int .i64 (k + 1 : Nat))]) (fun _ => (b8, .cells (bcells B'.cap B'.meet (.slice E1 B'.bs.length d1) (.slice E2 B'.ss.length d2) B'.high B'.seq) 30) :: ((q2 ++ q1) ++ (Bx b2 cc cm :: Tb b (Bc B' (.slice A1 B'.bs.length c1) (.slice A2 B'.ss.length c2)) :: (k1' ++ k2'))))
        (fun k => k ≤ B'.bs.length) (fun k => B'.bs.length - k) 0 (Nat.zero_le _) (.cons rfl (.cons rfl (.cons rfl (.cons rfl (.cons rfl (.cons rfl (.nil _))))))) (fun _ s => s) ?_)
      intro k hk
      refine .seq (.seq ((.region (.v (.move rfl) (.v (.fieldAddr rfl) (.v (.load (v := .slice E1 B'.bs.length d1) rfl (.one rfl)) (.v (.len rfl) (.v (.lss rfl rfl) (.nil ?_)))))))))
      refine .cond_dec rfl (fun h5 => .skip ?_) (fun h5 => .exit ?_)
      · have hk1 : k + 1 < B'.bs.length := by omega
        obtain ⟨e1, o1, l1, rfl, -⟩ := oe1.some_ (by omega)
        have hbet := hI'.s1.at hk1
        refine .seq (.block (.seq ((.drawK _ (fun _ h => h) (by kernel_rfl) (by kernel_rfl) ?_))))
        refine .v (fun _ f => .fieldAddr rfl) (.v (fun _ f => .load (v := .slice (some ⟨e1, o1, none⟩) B'.bs.length d1) rfl (.one (hb := .sub f) rfl)) (.v (fun _ f => .move rfl) (.v (fun _ f => .indexAddr rfl rfl (by omega) (by omega)) (.v (fun _ f => .fieldAddr rfl) (.v (fun _ f => .load (v := .int .i64 (B'.bs[k + 1]'hk1).pr) rfl (Side.ld (i := k + 1) (j := 3) oe1 (fun p hp => f (by simp [hp])) hk1 (by omega) rfl)) (.v (fun _ f => .fieldAddr rfl) (.v (fun _ f => .load (v := .slice (some ⟨e1, o1, none⟩) B'.bs.length d1) rfl (.one (hb := .sub f) rfl)) (.v (fun _ f => .move rfl) (.v (fun _ f => .subE (k : Int) rfl rfl (by omega) (by omega)) (.v (fun _ f => .indexAddr rfl rfl (by omega) (by omega)) (.v (fun _ f => .fieldAddr rfl) (.v (fun _ f => .load (v := .int .i64 (B'.bs[k]'(by omega)).pr) rfl (Side.ld (i := k) (j := 3) oe1 (fun p hp => f (by simp [hp])) (by omega) (by omega) rfl)) (.v (fun _ f => .gtr rfl rfl) (.nil ?_))))))))))))))
        refine .cond_dec rfl (fun h6 => ?_) (fun h6 => .skip ?_)
        · exfalso
          unfold bet at hbet; simp at hbet; omega
        · refine .region (.v (.move rfl) (.v (.addE ((k + 1 + 1 : Nat) : Int) rfl rfl (by omega) (by omega)) (.v (.assign rfl) (.nil ?_))))
          exact ⟨k + 1, by omega, by omega, .cons rfl (.cons rfl (.cons rfl (.cons rfl (.cons rfl (.cons rfl (.nil _)))))), fun _ s => s⟩
      · refine .seq ((.region (.v (.assign rfl) (.nil ?_))))
        refine .block (.loop (X := Nat) (fun k => [(1, .slice (some ⟨ba, oa, none⟩) len cap), (2, .pointer (some ⟨b2, 0, none⟩)), (5, .pointer (some ⟨b, 0, none⟩)), (7, .int .i64 i), (8, .pointer (some ⟨b8, 0, none⟩)), (10, .int .i64 (k + 1 : Nat))]) (fun _ => (b8, .cells (bcells B'.cap B'.meet (.slice E1 B'.bs.length d1) (.slice E2 B'.ss.length d2) B'.high B'.seq) 30) :: ((q2 ++ q1) ++ (Bx b2 cc cm :: Tb b (Bc B' (.slice A1 B'.bs.length c1) (.slice A2 B'.ss.length c2)) :: (k1' ++ k2'))))
          (fun k => k ≤ B'.ss.length) (fun k => B'.ss.length - k) 0 (Nat.zero_le _) (.cons rfl (.cons rfl (.cons rfl (.cons rfl (.cons rfl (.cons rfl (.nil _))))))) (fun _ s => s) ?_)
        intro k hk
        refine .seq (.seq ((.region (.v (.move rfl) (.v (.fieldAddr rfl) (.v (.load (v := .slice E2 B'.ss.length d2) rfl (.one rfl)) (.v (.len rfl) (.v (.lss rfl rfl) (.nil ?_)))))))))
        refine .cond_dec rfl (fun h5 => .skip ?_) (fun h5 => .exit ?_)
        · have hk1 : k + 1 < B'.ss.length := by omega
          obtain ⟨e1, o1, l1, rfl, -⟩ := oe2.some_ (by omega)
          have hbet := hI'.s2.at hk1
          refine .seq (.block (.seq ((.drawK _ (fun _ h => h) (by kernel_rfl) (by kernel_rfl) ?_))))
          refine .v (fun _ f => .fieldAddr rfl) (.v (fun _ f => .load (v := .slice (some ⟨e1, o1, none⟩) B'.ss.length d2) rfl (.one (hb := .sub f) rfl)) (.v (fun _ f => .move rfl) (.v (fun _ f => .indexAddr rfl rfl (by omega) (by omega)) (.v (fun _ f => .fieldAddr rfl) (.v (fun _ f => .load (v := .int .i64 (B'.ss[k + 1]'hk1).pr) rfl (Side.ld (i := k + 1) (j := 3) oe2 (fun p hp => f (by simp [hp])) hk1 (by omega) rfl)) (.v (fun _ f => .fieldAddr rfl) (.v (fun _ f => .load (v := .slice (some ⟨e1, o1, none⟩) B'.ss.length d2) rfl (.one (hb := .sub f) rfl)) (.v (fun _ f => .move rfl) (.v (fun _ f => .subE (k : Int) rfl rfl (by omega) (by omega)) (.v (fun _ f => .indexAddr rfl rfl (by omega) (by omega)) (.v (fun _ f => .fieldAddr rfl) (.v (fun _ f => .load (v := .int .i64 (B'.ss[k]'(by omega)).pr) rfl (Side.ld (i := k) (j := 3) oe2 (fun p hp => f (by simp [hp])) (by omega) (by omega) rfl)) (.v (fun _ f => .lss rfl rfl) (.nil ?_))))))))))))))
          refine .cond_dec rfl (fun h6 => ?_) (fun h6 => .skip ?_)
          · exfalso
            unfold bet at hbet; simp at hbet; omega
          · refine .region (.v (.move rfl) (.v (.addE ((k + 1 + 1 : Nat) : Int) rfl rfl (by omega) (by omega)) (.v (.assign rfl) (.nil ?_))))
            exact ⟨k + 1, by omega, by omega, .cons rfl (.cons rfl (.cons rfl (.cons rfl (.cons rfl (.cons rfl (.nil _)))))), fun _ s => s⟩
        · refine .region (.v (.move rfl) (.v (.addi rfl rfl (by omega)) (.v (.assign rfl) (.nil ?_))))
          exact ⟨⟨i + 1, B', _, _, k1', k2'⟩, ⟨by dsimp only; omega, hI', hcap', h1', h2'⟩, by dsimp only; omega, .cons rfl (.cons rfl (.cons rfl (.cons rfl (.nil _)))), fun _ s => Sat.take (pre := Bx b2 cc cm :: Tb b (Bc B' (.slice A1 B'.bs.length c1) (.slice A2 B'.ss.length c2)) :: (k1' ++ k2')) s⟩
  · refine .seq ((.region (.v (.assign rfl) (.nil ?_))))
    exact .ret ⟨[_], ⟨rfl, trivial⟩, rfl⟩
end Go.Proofs.Ytmfobfamdaajmaa
