/- The law RulesGoes: its walk. -/
import Derived.Test.YtmfobfamdaajmaaMG
namespace Go.Proofs.Ytmfobfamdaajmaa
open Go.V
set_option linter.unusedVariables false
set_option linter.unusedSimpArgs false

structure GS where
  B : Bk
  v1 : Value
  v2 : Value
  k1 : Hp
  k2 : Hp
  Q : Bk
  u1 : Value
  u2 : Value
  m1 : Hp
  m2 : Hp
abbrev GS.H (x : GS) (b q : Nat) : Hp := (Tb b (Bc x.B x.v1 x.v2) :: (x.k1 ++ x.k2)) ++ (Tb q (Bc x.Q x.u1 x.u2) :: (x.m1 ++ x.m2))
structure GS.I (x : GS) (eq : Prop) : Prop where
  vl : x.B.Vl
  s1 : Side x.v1 x.B.bs x.k1
  s2 : Side x.v2 x.B.ss x.k2
  t1 : Side x.u1 x.Q.bs x.m1
  t2 : Side x.u2 x.Q.ss x.m2
  same : eq → x.Q = x.B
set_option maxRecDepth 10000 in
theorem RulesGoes_ok (w : World) (cc cm : Int) (A : Option Addr) (len cap : Nat) (l : List Cm) (when_ : Int) (hl : len = l.length) (hA : Rd w [] A (crows l)) (hb : len ≤ 4503599627370496) (hw : ∀ c ∈ l, c.wf) :
    Is Try.prog 9 [.agg ⟨[.int .i64 cc, .int .i64 cm]⟩, .slice A len cap, .int .i64 when_] w (.bool true) := by
  refine Does.pure (Does.of (n := 78) Try.func9 rfl rfl rfl rfl ?_)
  refine .seq ((.region (.nw (.box rfl rfl) fun b3 => (.v (.assign rfl) (.nil ?_)))))
  refine .seq ((.region (.v (.loadA (vs := [.int .i64 cc, .int .i64 cm]) rfl .whole rfl) ?_)))
  refine .ef (.call0 rfl rfl fun w s => begun_ok w cc cm) ?_
  rintro _ _ ⟨_, hN, rfl⟩
  by_cases hc : Cfg cc cm
  case neg =>
    rw [if_neg hc] at hN
    obtain ⟨rfl, rfl⟩ := hN
    refine .v (.move rfl) (.v (.extract rfl rfl) (.v (.extract rfl rfl) (.v (.assign rfl) (.v (.assign rfl) (.nil ?_)))))
    refine .seq (.seq ((.region (.v (.move rfl) (.v (.eql_ptr_nil rfl rfl) (.v (.move rfl) (.or (b2 := false) 20 22 2 2 rfl rfl (fun g1 => absurd g1 (by simp)) (.nil ?_))))))))
    refine .cond rfl (fun _ => ?_) (fun h => absurd h (by simp))
    refine .seq ((.region (.v (.move rfl) (.v (.assign rfl) (.nil ?_)))))
    exact .ret ⟨[_], ⟨rfl, trivial⟩, rfl⟩
  rw [if_pos hc] at hN
  obtain ⟨b, rfl, rfl⟩ := hN
  refine .v (.move rfl) (.v (.extract rfl rfl) (.v (.extract rfl rfl) (.v (.assign rfl) (.v (.assign rfl) (.nil ?_)))))
  refine .seq (.seq ((.region (.v (.move rfl) (.v (.eql_ptr_nil rfl rfl) (.v (.move rfl) (.or 20 22 2 2 rfl rfl (fun g1 => .v (.move rfl) (.v (.not rfl) (.nil ⟨rfl, rfl, rfl, rfl⟩))) (.nil ?_))))))))
  refine .cond rfl (fun h => absurd h (by simp)) (fun _ => .skip ?_)
  refine .seq ((.region (.v (.build (out := [.int .i64 1, .int .i64 0]) rfl rfl) ?_)))
  refine .ef (.call0 rfl rfl fun w s => New_ok w 1 0) ?_
  rintro _ _ ⟨_, hN, rfl⟩
  have hc10 : Cfg 1 0 := by decide
  rw [if_pos hc10] at hN
  obtain ⟨bq, rfl, rfl⟩ := hN
  refine .v (.move rfl) (.v (.extract rfl rfl) (.v (.extract rfl rfl) (.v (.assign rfl) (.v (.assign rfl) (.nil ?_)))))
  refine .heap (hs' := (Tb b (Bc (newB cc cm) (.slice none 0 0) (.slice none 0 0)) :: ([] ++ [])) ++ (Tb bq (Bc (newB 1 0) (.slice none 0 0) (.slice none 0 0)) :: ([] ++ []))) (fun _ s => Sat.take (pre := (Tb b (Bc (newB cc cm) (.slice none 0 0) (.slice none 0 0)) :: ([] ++ [])) ++ ((bq, .cells (bnew 1 0) 67) :: ([] ++ []))) s) ?_
  refine .seq (.seq ((.region (.v (.move rfl) (.v (.eql_ptr_nil rfl rfl) (.nil ?_))))))
  refine .cond rfl (fun h => absurd h (by simp)) (fun _ => .skip ?_)
  refine .seq (.seq ((.region (.v (.assign rfl) (.nil ?_)))))
  refine .block (.loop (X := Nat × GS) (fun x => [(1, .slice A len cap), (2, .int .i64 when_), (7, .pointer (some ⟨b, 0, none⟩)), (9, .pointer (some ⟨bq, 0, none⟩)), (11, .int .i64 x.1)]) (fun x => x.2.H b bq) (fun x => x.1 ≤ len ∧ x.2.I (0 ≤ when_ ∧ when_ < x.1)) (fun x => len - x.1)
    ⟨0, newB cc cm, .slice none 0 0, .slice none 0 0, [], [], newB 1 0, .slice none 0 0, .slice none 0 0, [], []⟩ ⟨by simp, newB_vl hc, OwnS.nil _ _, OwnS.nil _ _, OwnS.nil _ _, OwnS.nil _ _, fun e => by simp at e; omega⟩ (.cons rfl (.cons rfl (.cons rfl (.cons rfl (.cons rfl (.nil _)))))) (fun _ s => s) ?_)
  rintro ⟨i, x0⟩ ⟨hi, hI0⟩
  dsimp only at hi hI0 ⊢
  refine .seq (.seq ((.region (.v (.move rfl) (.v (.move rfl) (.v (.len rfl) (.v (.lss rfl rfl) (.nil ?_))))))))
  refine .cond_dec rfl (fun g2 => .skip ?_) (fun g2 => .exit ?_)
  · have hil : i < l.length := by omega
    obtain ⟨ba, oa, rfl, hat⟩ := Rd.cm hA (by omega)
    have hcw := hw _ (List.getElem_mem hil)
    have hat := hat i hil
    generalize l[i] = c at hat hcw
    refine .mid (X := GS) (fun _ => [(1, .slice (some ⟨ba, oa, none⟩) len cap), (2, .int .i64 when_), (7, .pointer (some ⟨b, 0, none⟩)), (9, .pointer (some ⟨bq, 0, none⟩)), (11, .int .i64 i)]) (fun x => x.H b bq) (fun x => x.I (0 ≤ when_ ∧ when_ < (i + 1 : Nat))) (.block ?_) ?_
    · refine .mid (X := GS) (fun _ => [(1, .slice (some ⟨ba, oa, none⟩) len cap), (2, .int .i64 when_), (7, .pointer (some ⟨b, 0, none⟩)), (9, .pointer (some ⟨bq, 0, none⟩)), (11, .int .i64 i)]) (fun x => x.H b bq) (fun x => x.I (0 ≤ when_ ∧ when_ ≤ i)) ?_ ?_
      · obtain ⟨B, v1, v2, k1, k2, Q, u1, u2, m1, m2⟩ := x0
        obtain ⟨hI, h1, h2, hu1, hu2, hsame⟩ := hI0
        dsimp only at hI h1 h2 hu1 hu2 hsame ⊢
        by_cases hwh : (i : Int) = when_
        · obtain ⟨A1, c1, rfl⟩ := OwnS.sl h1
          obtain ⟨A2, c2, rfl⟩ := OwnS.sl h2
          have hlen := hI.len
          have hcapb := hI.inv.hi
          refine .seq ((.region (.v (.move rfl) (.v (.move rfl) (.v (v := .bool true) (by rw [show true = decide ((i : Int) = when_) from by simp [hwh]]; exact .eqi rfl rfl) (.v (.move rfl) (.v (.move rfl) (.v (.move rfl) ?_))))))))
          refine .ef (.call0 rfl rfl fun w s => Book_ok w b B.cap B.meet B.high B.seq A1 A2 c1 c2 B.bs B.ss (Rd.chunk s (T := 67) (l := Bc B (.slice A1 B.bs.length c1) (.slice A2 B.ss.length c2)) (by simp) (fun j v hv => by rw [Nat.zero_add]; exact hv)) (OwnS.rd h1 s (no := []) (fun p hp => by simp [hp]) (by simp)) (OwnS.rd h2 s (no := []) (fun p hp => by simp [hp]) (by simp)) (by omega) (by omega)) ?_
          rintro _ _ ⟨_, ⟨E1, E2, d1, d2, q1, q2, rfl, rfl, oe1, oe2⟩, rfl⟩
          refine .ef (.callT [Tb bq (Bc Q u1 u2)] rfl rfl (fun w s => Load_ok w bq _ _ _ _ _ _ B.cap B.meet B.high B.seq E1 E2 d1 d2 B.bs B.ss (OwnS.rd oe1 s (fun p hp => by simp [hp]) (Sat.apart (c := .cells (Bc Q u1 u2) 67) s)) (OwnS.rd oe2 s (fun p hp => by simp [hp]) (Sat.apart (c := .cells (Bc Q u1 u2) 67) s)) (fun o ho => (hI.rests o ho).2) (by omega) (by omega) hI.vld)) ?_
          rintro _ _ ⟨_, ⟨rfl, w1, w2, n1, n2, rfl, hw1, hw2⟩, rfl⟩
          refine .v (.nei rfl rfl) (.v (.pick rfl rfl rfl) (.nil ?_))
          refine .cond rfl (fun h => absurd h (by simp)) (fun _ => .skip ?_)
          exact ⟨⟨B, _, _, k1, k2, B, w1, w2, n1, n2⟩, ⟨hI, h1, h2, hw1, hw2, fun _ => rfl⟩, .cons rfl (.cons rfl (.cons rfl (.cons rfl (.cons rfl (.nil _))))), fun _ s => Sat.take (pre := (Tb b (Bc B (.slice A1 B.bs.length c1) (.slice A2 B.ss.length c2)) :: (k1 ++ k2)) ++ (Tb bq (Bc ⟨B.cap, B.meet, B.bs, B.ss, B.high, B.seq⟩ w1 w2) :: (n1 ++ n2))) s⟩
        · refine .seq ((.region (.v (.move rfl) (.v (.move rfl) (.v (.eqi rfl rfl) (.v (.move rfl) (.and (b2 := false) 41 46 5 5 rfl rfl (fun g => absurd (of_decide_eq_true g) hwh) (.nil ?_))))))))
          refine .cond rfl (fun h => absurd h (by simp)) (fun _ => .skip ?_)
          exact ⟨⟨B, v1, v2, k1, k2, Q, u1, u2, m1, m2⟩, ⟨hI, h1, h2, hu1, hu2, fun e => hsame ⟨e.1, by omega⟩⟩, .cons rfl (.cons rfl (.cons rfl (.cons rfl (.cons rfl (.nil _))))), fun _ s => s⟩
      · rintro ⟨B, v1, v2, k1, k2, Q, u1, u2, m1, m2⟩ ⟨hI, h1, h2, hu1, hu2, hsame⟩
        dsimp only at hI h1 h2 hu1 hu2 hsame ⊢
        have hI' := does_vl hI hcw
        have hel := does_len hI.inv hcw
        refine .seq ((.region (.v (.move rfl) (.v (.move rfl) (.v (.move rfl) (.v (.indexAddr rfl rfl (by omega) (by omega)) (.v (.loadA (vs := c.cells) rfl (hat _ _ (by simp [bl])) rfl) ?_)))))))
        refine .ef (.callT (Tb b (Bc B v1 v2) :: (k1 ++ k2)) rfl rfl (fun w s => Does.call_Do w b B hI.inv.ok c hcw.2.1 hcw.2.2 v1 v2 k1 k2 h1 h2)) ?_
        generalize hD : B.does c = D at hI' hel ⊢
        obtain ⟨B', evs⟩ := D
        rintro _ _ ⟨_, ⟨A', c', v1', v2', k1', k2', ke, rfl, rfl, h1', h2', hE⟩, rfl⟩
        dsimp only at hI' hel h1' h2' hE ⊢
        refine .v (.assign rfl) (.nil ?_)
        refine .seq ((.region (.v (.move rfl) (.v (.geq rfl rfl) (.v (.move rfl) (.and 56 59 3 3 rfl rfl (fun g3 => .v (.move rfl) (.v (.move rfl) (.v (.geq rfl rfl) (.nil ⟨rfl, rfl, rfl, rfl⟩)))) (.nil ?_)))))))
        refine .cond rfl (fun h5 => ?_) (fun h5 => .skip ?_)
        · have hwi : 0 ≤ when_ ∧ when_ ≤ i := by simp only [Bool.and_eq_true, Bool.or_eq_true, Bool.not_eq_true', Bool.and_eq_false_iff, Bool.or_eq_false_iff, Bool.not_eq_false', decide_eq_true_eq, decide_eq_false_iff_not, Bool.false_eq_true, false_iff] at h5; omega
          obtain rfl := hsame hwi
          refine .seq ((.region (.v (.move rfl) (.v (.move rfl) (.v (.move rfl) (.v (.move rfl) (.v (.indexAddr rfl rfl (by omega) (by omega)) (.v (.loadA (vs := c.cells) rfl (hat _ _ (by simp [bl])) rfl) ?_))))))))
          refine .ef (.callT (Tb bq (Bc Q u1 u2) :: (m1 ++ m2)) rfl rfl (fun w s => Does.call_Do w bq Q hI.inv.ok c hcw.2.1 hcw.2.2 u1 u2 m1 m2 hu1 hu2)) ?_
          rw [hD]
          rintro _ _ ⟨_, ⟨Aq, cq, u1', u2', m1', m2', kq, rfl, rfl, hu1', hu2', hQ⟩, rfl⟩
          dsimp only at hu1' hu2' hQ ⊢
          obtain ⟨A1, c1, rfl⟩ := OwnS.sl h1'
          obtain ⟨A2, c2, rfl⟩ := OwnS.sl h2'
          obtain ⟨F1, e1, rfl⟩ := OwnS.sl hu1'
          obtain ⟨F2, e2, rfl⟩ := OwnS.sl hu2'
          have hlen := hI'.len
          have hcapb := hI'.inv.hi
          refine .pc (v := .bool true) rfl rfl (fun w s => events_ok w A' Aq evs.length c' cq evs (OwnS.rd hE s (no := []) (fun p hp => by simp [hp]) (by simp)) (OwnS.rd hQ s (no := []) (fun p hp => by simp [hp]) (by simp)) rfl (by omega)) ?_
          refine .v (.not rfl) (.v (.move rfl) (.v (.move rfl) ?_))
          refine .ef (.call0 rfl rfl fun w s => Book_ok w b B'.cap B'.meet B'.high B'.seq A1 A2 c1 c2 B'.bs B'.ss (Rd.chunk s (T := 67) (l := Bc B' (.slice A1 B'.bs.length c1) (.slice A2 B'.ss.length c2)) (by simp) (fun j v hv => by rw [Nat.zero_add]; exact hv)) (OwnS.rd h1' s (no := []) (fun p hp => by simp [hp]) (by simp)) (OwnS.rd h2' s (no := []) (fun p hp => by simp [hp]) (by simp)) (by omega) (by omega)) ?_
          rintro _ _ ⟨_, ⟨G1, G2, d1, d2, q1, q2, rfl, rfl, oe1, oe2⟩, rfl⟩
          refine .v (.move rfl) ?_
          refine .ef (.call0 rfl rfl fun w s => Book_ok w bq B'.cap B'.meet B'.high B'.seq F1 F2 e1 e2 B'.bs B'.ss (Rd.chunk s (T := 67) (l := Bc B' (.slice F1 B'.bs.length e1) (.slice F2 B'.ss.length e2)) (by simp) (fun j v hv => by rw [Nat.zero_add]; exact hv)) (OwnS.rd hu1' s (no := []) (fun p hp => by simp [hp]) (by simp)) (OwnS.rd hu2' s (no := []) (fun p hp => by simp [hp]) (by simp)) (by omega) (by omega)) ?_
          rintro _ _ ⟨_, ⟨H1, H2, y1, y2, z1, z2, rfl, rfl, of1, of2⟩, rfl⟩
          refine .pc (v := .bool true) rfl rfl (fun w s => books_ok w B'.cap B'.meet B'.high B'.seq G1 G2 H1 H2 d1 d2 y1 y2 B'.bs B'.ss (OwnS.rd oe1 s (no := []) (fun p hp => by simp [hp]) (by simp)) (OwnS.rd oe2 s (no := []) (fun p hp => by simp [hp]) (by simp)) (OwnS.rd of1 s (no := []) (fun p hp => by simp [hp]) (by simp)) (OwnS.rd of2 s (no := []) (fun p hp => by simp [hp]) (by simp)) (by omega) (by omega)) ?_
          refine .v (.not rfl) (.v (.pick rfl rfl rfl) (.nil ?_))
          refine .cond rfl (fun h => absurd h (by simp)) (fun _ => .skip ?_)
          exact ⟨⟨B', _, _, k1', k2', B', _, _, m1', m2'⟩, ⟨hI', h1', h2', hu1', hu2', fun _ => rfl⟩, .cons rfl (.cons rfl (.cons rfl (.cons rfl (.cons rfl (.nil _))))), fun _ s => Sat.take (pre := (Tb b (Bc B' (.slice A1 B'.bs.length c1) (.slice A2 B'.ss.length c2)) :: (k1' ++ k2')) ++ (Tb bq (Bc B' (.slice F1 B'.bs.length e1) (.slice F2 B'.ss.length e2)) :: (m1' ++ m2'))) s⟩
        · have hwi : ¬ (0 ≤ when_ ∧ when_ < (i + 1 : Nat)) := by simp only [Bool.and_eq_true, Bool.or_eq_true, Bool.not_eq_true', Bool.and_eq_false_iff, Bool.or_eq_false_iff, Bool.not_eq_false', decide_eq_true_eq, decide_eq_false_iff_not, Bool.false_eq_true, false_iff] at h5; omega
          exact ⟨⟨B', _, _, k1', k2', Q, u1, u2, m1, m2⟩, ⟨hI', h1', h2', hu1, hu2, fun e => absurd e hwi⟩, .cons rfl (.cons rfl (.cons rfl (.cons rfl (.cons rfl (.nil _))))), fun _ s => Sat.take (pre := (Tb b (Bc B' v1' v2') :: (k1' ++ k2')) ++ (Tb bq (Bc Q u1 u2) :: (m1 ++ m2))) s⟩
    · intro x hx
      refine .region (.v (.move rfl) (.v (.addi rfl rfl (by omega)) (.v (.assign rfl) (.nil ?_))))
      exact ⟨⟨i + 1, x⟩, ⟨by dsimp only; omega, hx⟩, by dsimp only; omega, .cons rfl (.cons rfl (.cons rfl (.cons rfl (.cons rfl (.nil _))))), fun _ s => s⟩
  · refine .seq ((.region (.v (.assign rfl) (.nil ?_))))
    exact .ret ⟨[_], ⟨rfl, trivial⟩, rfl⟩
end Go.Proofs.Ytmfobfamdaajmaa
