/- ME: several texts in one. -/
import Derived.Test.YtmfobfamdaajmaaMD
import Derived.Test.YtmfobfamdaajmaaMC
/- (*teller).whole: would an order trade whole? -/
namespace Go.Proofs.Ytmfobfamdaajmaa
open Go.V
set_option linter.unusedVariables false
set_option linter.unusedSimpArgs false

theorem Does.kept {P : Program} {g : Nat} {vals : List Value} {w : World} {v : Value} (h : Does P g vals [] w (fun u _ => u = v)) : Is P g vals w v :=
  Does.less (h.mono fun u hs e => ⟨[], fun _ s => s.sub (List.nil_sublist _), e, rfl⟩)
set_option maxRecDepth 10000 in
theorem whole_ok (w : World) (t b : Nat) (B : Bk) (tk : Tk) (hs : tk.side = 1 ∨ tk.side = 2) (ve : Value) (A1 A2 : Option Addr) (c1 c2 : Nat) (ht : Rd w [] (some ⟨t, 0, none⟩) [.pointer (some ⟨b, 0, none⟩), ve])
    (hb : Rd w [] (some ⟨b, 0, none⟩) (Bc B (.slice A1 B.bs.length c1) (.slice A2 B.ss.length c2))) (h1 : Rd w [] A1 (rows B.bs)) (h2 : Rd w [] A2 (rows B.ss)) (hOk : (B.ts [] tk).Ok) (hn1 : B.bs.length ≤ 1000000) (hn2 : B.ss.length ≤ 1000000) :
    Is Try.prog 54 [.pointer (some ⟨t, 0, none⟩), .agg ⟨tk.cells⟩] w (.bool (decide (tsum (tr B.meet tk (B.ts [] tk)).evs = tk.left))) := by
  have hnn : (B.ts [] tk).L.length ≤ 1000000 := by
    unfold Bk.ts Bk.side
    simp only
    split <;> assumption
  refine Does.kept (Does.of (n := 46) Try.func54 rfl rfl rfl rfl ?_)
  refine .seq ((.region (.nw (.box (l := [.int .u64 tk.o.id, .int .u32 tk.o.mb, .int .i64 tk.o.ty, .int .i64 tk.o.pr, .int .u64 tk.o.v, .int .u64 tk.o.hd, .int .u64 tk.o.pk, .int .i64 tk.side, .int .i64 tk.kind, .int .u64 tk.left]) rfl rfl) fun b3 => (.v (.assign rfl) (.nil ?_)))))
  refine .seq ((.region (.v (.move rfl) (.v (.nilCheck rfl) (.v (.fieldAddr rfl) (.v (.load (v := .pointer (some ⟨b, 0, none⟩)) rfl (ht.cell (i := 0) rfl)) (.v (.nilCheck rfl) (.v (.fieldAddr rfl) (.v (.loadA (vs := Bc B (.slice A1 B.bs.length c1) (.slice A2 B.ss.length c2)) rfl hb.whole rfl) ?_)))))))))
  refine .ef (.call0 rfl rfl fun w s => copied_ok w B.cap B.meet B.high B.seq A1 A2 c1 c2 B.bs B.ss (h1.keep0 s) (h2.keep0 s) (by omega) (by omega)) ?_
  rintro _ _ ⟨_, ⟨E1, E2, d1, d2, k1, k2, rfl, rfl, o1, o2⟩, rfl⟩
  refine .v (.build (out := Bc B (.slice E1 B.bs.length d1) (.slice E2 B.ss.length d2)) rfl rfl) (.nw (.box (l := Bc B (.slice E1 B.bs.length d1) (.slice E2 B.ss.length d2)) rfl rfl) fun b19 => (.v (.build (out := [.pointer (some ⟨b19, 0, none⟩), .slice none 0 0]) rfl rfl) (.nw (.box (l := [.pointer (some ⟨b19, 0, none⟩), .slice none 0 0]) rfl rfl) fun b21 => (.v (.assign rfl) (.nil ?_)))))
  refine .seq ((.region (.v (.fieldAddr rfl) (.v (.load (v := .int .u64 tk.left) rfl (.one rfl)) (.v (.assign rfl) (.nil ?_))))))
  refine .seq ((.region (.v (.move rfl) ?_)))
  refine .ef (.callT (To b3 tk tk.left :: TBh b21 b19 B (.slice E1 B.bs.length d1) (.slice E2 B.ss.length d2) (.slice none 0 0) k1 k2 []) rfl rfl (fun w' s' => trade_ok w' b21 b19 b3 B [] tk hs _ _ _ k1 k2 [] o1 o2 (OwnS.nil _ _) hOk hnn (by simp))) ?_
  rintro _ _ ⟨_, ⟨h, rfl, ⟨v1', v2', ve', k1', k2', ke', rfl, -, -, hE⟩⟩, rfl⟩
  have hz := (tr_run (meet := B.meet) (t := tk) hOk).ok hOk
  have hmu := mu_le hOk
  have hze : (B.ts [] tk).evs.length = 0 := rfl
  generalize tr B.meet tk (B.ts [] tk) = z at *
  refine .nil ?_
  obtain ⟨A, c, rfl⟩ := OwnS.sl hE
  refine .seq ((.region (.v (.assign rfl) (.nil ?_))))
  refine .seq (.seq ((.region (.v (.move rfl) (.v (.nilCheck rfl) (.v (.fieldAddr rfl) (.v (.load (v := .slice A z.evs.length c) rfl (.one rfl)) (.v (.len rfl) (.v (.move rfl) (.nil ?_))))))))))
  refine .keep ke' ?_
  have hnb : z.evs.length ≤ 2513169434843 := by
    omega
  refine .block (.loop (X := Nat) (fun i => [(6, .int .u64 tk.left), (7, .int .u64 (tsum (z.evs.take i))), (29, .slice A z.evs.length c), (30, .int .i64 z.evs.length), (31, .int .i64 i)]) (fun _ => ke') (fun i => i ≤ z.evs.length) (fun i => z.evs.length - i) 0 (by omega)
    (.cons rfl (.cons rfl (.cons rfl (.cons rfl (.cons rfl (.nil _)))))) (fun _ s => s) ?_)
  intro i hi
  refine .seq ((.region (.v (.lss rfl rfl) (.nil ?_))))
  refine .seq (.cond_dec rfl (fun g1 => .skip ?_) (fun g1 => .exit ?_))
  · have hil : i < z.evs.length := by omega
    obtain ⟨bk, ok, lk, rfl, -, rfl, -, -, -⟩ := hE.some_ (by omega)
    generalize hev : z.evs[i] = ev
    have hat : ∀ own, At w own [(bk, Ch.cells lk 50)] ⟨bk, ok + i * 13, none⟩ ev.cells := fun own => hE.atN (fun _ h => h) (fun j v hv => by
      have h13 := (List.getElem?_eq_some_iff.1 hv).1
      rw [erows_get z.evs i j hil (by simpa [Ev.cells] using h13), hev]; exact hv)
    have etk : z.evs.take (i + 1) = z.evs.take i ++ [ev] := by rw [List.take_add_one, List.getElem?_eq_getElem hil, hev]; rfl
    refine .seq (.block (.seq ((.region (.v (.indexAddr rfl rfl (by omega) (by omega)) (.v (.loadA (vs := ev.cells) rfl (hat _) rfl) (.nw .alloc fun b9 => (.st (.sw rfl rfl) (.nil ?_)))))))))
    refine .seq ((.region (.v (.fieldAddr rfl) (.v (.load (v := .int .i64 ev.kind) rfl (.one rfl)) (.v (.eqi rfl rfl) (.nil ?_))))))
    refine .cond_dec rfl (fun g2 => ?_) (fun g2 => .skip ?_)
    · refine .region (.v (.move rfl) (.v (.fieldAddr rfl) (.v (.load (v := .int .u64 ev.q) rfl (.one rfl)) (.v (.add rfl rfl) (.v (.assign rfl) (.nil ?_))))))
      refine .region (.v (.addi rfl rfl (by omega)) (.v (.move rfl) (.nil ?_)))
      exact ⟨i + 1, by omega, by omega, .cons rfl (.cons (by rw [etk, tsum_snoc, if_pos g2]; rfl) (.cons rfl (.cons rfl (.cons rfl (.nil _))))), fun _ s => s.take⟩
    · refine .region (.v (.addi rfl rfl (by omega)) (.v (.move rfl) (.nil ?_)))
      exact ⟨i + 1, by omega, by omega, .cons rfl (.cons (by rw [etk, tsum_snoc, if_neg g2]; rfl) (.cons rfl (.cons rfl (.cons rfl (.nil _))))), fun _ s => s.take⟩
  · refine .seq ((.region (.v (.move rfl) (.v (.move rfl) (.v (.eqi rfl rfl) (.v (.assign rfl) (.nil ?_)))))))
    have : z.evs.take i = z.evs := List.take_of_length_le (by omega)
    exact .ret ⟨[_], ⟨rfl, trivial⟩, by rw [this]; rfl⟩
end Go.Proofs.Ytmfobfamdaajmaa

/- tell and rests in terms of books; (*teller).comes. -/
namespace Go.Proofs.Ytmfobfamdaajmaa
open Go.V
set_option linter.unusedVariables false
set_option linter.unusedSimpArgs false

theorem tellB_ok (w : World) (t b : Nat) (B : Bk) (evs : List Ev) (e : Ev) (v1 v2 ve : Value) (k1 k2 ke : Hp) (h1 : Side v1 B.bs k1) (h2 : Side v2 B.ss k2) (hE : Evs ve evs ke) (hn : evs.length + 1 ≤ 1000000000000) :
    Does Try.prog 44 [.pointer (some ⟨t, 0, none⟩), .agg ⟨e.cells⟩] (TBh t b B v1 v2 ve k1 k2 ke) w (fun _ hs => TB t b (B.num (nx B.seq)) (evs ++ [e.num (nx B.seq)]) hs) := by
  refine (Does.lendT (Tt t b ve :: Tb b (Bc B v1 v2) :: ke) (tell_ok w t b _ _ _ _ _ B.seq e evs ve ke hE hn)).keepT ?_
  rintro _ _ ⟨_, ⟨ve', ke', rfl, hE'⟩, rfl⟩
  have hp : ((Tt t b ve' :: Tb b (Bc (B.num (nx B.seq)) v1 v2) :: ke') ++ (k1 ++ (k2 ++ []))).Perm (TBh t b (B.num (nx B.seq)) v1 v2 ve' k1 k2 ke' ++ []) := TakeI.out
  exact ⟨TBh t b (B.num (nx B.seq)) v1 v2 ve' k1 k2 ke', [], hp, v1, v2, ve', k1, k2, ke', rfl, h1, h2, hE'⟩
theorem restB_ok (w : World) (b : Nat) (B : Bk) (s : Int) (hs : s = 1 ∨ s = 2) (o : Ord) (v1 v2 : Value) (k1 k2 : Hp) (h1 : Side v1 B.bs k1) (h2 : Side v2 B.ss k2) (hn1 : B.bs.length ≤ 1000000) (hn2 : B.ss.length ≤ 1000000) :
    Does Try.prog 56 [.pointer (some ⟨b, 0, none⟩), .int .i64 s, .agg ⟨o.cells⟩] (Tb b (Bc B v1 v2) :: (k1 ++ k2)) w (fun _ hs => BkH b (B.put s (rst s o (B.side s))) hs) := by
  rcases hs with rfl | rfl
  · refine (Does.lendT (Tb b (Bc B v1 v2) :: k1) (rests_ok w b 2 1 (by omega) (Bc B v1 v2) rfl o B.bs _ k1 rfl h1 (by omega))).keepT ?_
    rintro _ _ ⟨_, ⟨v, k', rfl, h'⟩, rfl⟩
    have e : B.put 1 (rst 1 o (B.side 1)) = ⟨B.cap, B.meet, rst 1 o B.bs, B.ss, B.high, B.seq⟩ := rfl
    have hp : ((Tb b (Bc ⟨B.cap, B.meet, rst 1 o B.bs, B.ss, B.high, B.seq⟩ v v2) :: k') ++ k2).Perm ((Tb b (Bc ⟨B.cap, B.meet, rst 1 o B.bs, B.ss, B.high, B.seq⟩ v v2) :: (k' ++ k2)) ++ []) := TakeI.out
    exact ⟨Tb b (Bc ⟨B.cap, B.meet, rst 1 o B.bs, B.ss, B.high, B.seq⟩ v v2) :: (k' ++ k2), [], hp, v, v2, k', k2, rfl, h', h2⟩
  · refine (Does.lendT (Tb b (Bc B v1 v2) :: k2) (rests_ok w b 3 2 (by omega) (Bc B v1 v2) rfl o B.ss _ k2 rfl h2 (by omega))).keepT ?_
    rintro _ _ ⟨_, ⟨v, k', rfl, h'⟩, rfl⟩
    have e : B.put 2 (rst 2 o (B.side 2)) = ⟨B.cap, B.meet, B.bs, rst 2 o B.ss, B.high, B.seq⟩ := rfl
    have hp : ((Tb b (Bc ⟨B.cap, B.meet, B.bs, rst 2 o B.ss, B.high, B.seq⟩ v1 v) :: k') ++ (k1 ++ [])).Perm ((Tb b (Bc ⟨B.cap, B.meet, B.bs, rst 2 o B.ss, B.high, B.seq⟩ v1 v) :: (k1 ++ k')) ++ []) := TakeI.out
    exact ⟨Tb b (Bc ⟨B.cap, B.meet, B.bs, rst 2 o B.ss, B.high, B.seq⟩ v1 v) :: (k1 ++ k'), [], hp, v1, v, k1, k', rfl, h1, h'⟩
/-- the order that rests: what it shows, what it hides -/
def restOf (o : Ord) (left : Int) : Ord := ⟨o.id, o.mb, o.ty, o.pr, if 0 < o.pk then min o.pk left else left, left - (if 0 < o.pk then min o.pk left else left), o.pk⟩
def Bk.comes (B : Bk) (evs : List Ev) (t : Tk) : Bk × List Ev :=
  if t.kind = 4 ∧ tsum (tr B.meet t (B.ts [] t)).evs ≠ t.left then (B.num (nx B.seq), evs ++ [(evCancel t.o.id t.left 4).num (nx B.seq)])
  else
    let z := tr B.meet t (B.ts evs t)
    let B1 := B.traded t z
    if z.left = 0 then (B1, z.evs)
    else if t.kind ≠ 1 ∧ t.kind ≠ 5 then (B1.num (nx B1.seq), z.evs ++ [(evCancel t.o.id z.left 3).num (nx B1.seq)])
    else (B1.put t.side (rst t.side (restOf t.o z.left) (B1.side t.side)), z.evs)
set_option maxRecDepth 10000 in
theorem comes_ok (w : World) (t b : Nat) (B : Bk) (evs : List Ev) (tk : Tk) (hs : tk.side = 1 ∨ tk.side = 2) (v1 v2 ve : Value) (k1 k2 ke : Hp) (h1 : Side v1 B.bs k1) (h2 : Side v2 B.ss k2) (hE : Evs ve evs ke) (hOk : (B.ts evs tk).Ok) (hpk : U tk.o.pk)
    (hn1 : B.bs.length ≤ 500000) (hn2 : B.ss.length ≤ 500000) (he : evs.length ≤ 1000000) :
    Does Try.prog 47 [.pointer (some ⟨t, 0, none⟩), .agg ⟨tk.cells⟩] (TBh t b B v1 v2 ve k1 k2 ke) w (fun _ hs => TB t b (B.comes evs tk).1 (B.comes evs tk).2 hs) := by
  have hOk0 : (B.ts [] tk).Ok := ⟨hOk.good, hOk.lo, hOk.hi⟩
  have hnn : (B.ts evs tk).L.length ≤ 1000000 := by
    unfold Bk.ts Bk.side; simp only
    split <;> omega
  obtain ⟨A1, c1, rfl⟩ := OwnS.sl h1
  obtain ⟨A2, c2, rfl⟩ := OwnS.sl h2
  refine Does.less (Does.of (n := 75) Try.func47 rfl rfl rfl rfl ?_)
  refine .seq ((.region (.nw (.box (l := [.int .u64 tk.o.id, .int .u32 tk.o.mb, .int .i64 tk.o.ty, .int .i64 tk.o.pr, .int .u64 tk.o.v, .int .u64 tk.o.hd, .int .u64 tk.o.pk, .int .i64 tk.side, .int .i64 tk.kind, .int .u64 tk.left]) rfl rfl) fun b3 => (.nil ?_))))
  refine .seq (.seq ((.region (.v (.fieldAddr rfl) (.v (.load (v := .int .i64 tk.kind) rfl (.one rfl)) (.v (.eqi rfl rfl) (.v (.move rfl) (.and 7 11 4 4 rfl rfl (fun g1 => .v (.move rfl) (.v (.loadA (vs := tk.cells) rfl .whole rfl) (.pc rfl rfl (fun w s => whole_ok w t b B tk hs ve A1 A2 c1 c2 (Rd.chunk s (T := 79) (l := [.pointer (some ⟨b, 0, none⟩), ve]) (by simp) (fun j v hv => by rw [Nat.zero_add]; exact hv)) (Rd.chunk s (T := 67) (l := Bc B (.slice A1 B.bs.length c1) (.slice A2 B.ss.length c2)) (by simp) (fun j v hv => by rw [Nat.zero_add]; exact hv)) (OwnS.rd h1 s (no := []) (fun p hp => by simp [hp]) (by simp)) (OwnS.rd h2 s (no := []) (fun p hp => by simp [hp]) (by simp)) hOk0 (by omega) (by omega)) (.v (.not rfl) (.nil ⟨rfl, rfl, rfl, rfl⟩))))) (.nil ?_)))))))))
  refine .cond rfl (fun g1 => ?_) (fun g1 => .skip ?_)
  · have g1' : tk.kind = 4 ∧ tsum (tr B.meet tk (B.ts [] tk)).evs ≠ tk.left := by simpa using g1
    have eC : B.comes evs tk = (B.num (nx B.seq), evs ++ [(evCancel tk.o.id tk.left 4).num (nx B.seq)]) := by unfold Bk.comes; rw [if_pos g1']
    refine .seq ((.region (.v (.move rfl) (.v (.fieldAddr rfl) (.v (.fieldAddr rfl) (.v (.load (v := .int .u64 tk.o.id) rfl (.one rfl)) (.v (.fieldAddr rfl) (.v (.load (v := .int .u64 tk.left) rfl (.one rfl)) (.v (.build (out := (evCancel tk.o.id tk.left 4).cells) rfl rfl) ?_)))))))))
    refine .ef (.callT (TBh t b B (.slice A1 B.bs.length c1) (.slice A2 B.ss.length c2) ve k1 k2 ke) rfl rfl (fun w' s' => tellB_ok w' t b B evs (evCancel tk.o.id tk.left 4) _ _ ve k1 k2 ke h1 h2 hE (by omega))) ?_
    rintro _ _ ⟨_, ⟨v1', v2', ve', k1', k2', ke', rfl, h1', h2', hE'⟩, rfl⟩
    refine .nil (.ret ⟨[], trivial, _, fun _ s => Sat.take (pre := TBh t b (B.num (nx B.seq)) v1' v2' ve' k1' k2' ke') s, ?_⟩)
    rw [eC]
    exact ⟨v1', v2', ve', k1', k2', ke', rfl, h1', h2', hE'⟩
  have g1' : ¬ (tk.kind = 4 ∧ tsum (tr B.meet tk (B.ts [] tk)).evs ≠ tk.left) := by
    rintro ⟨a, c⟩
    simp [a, c] at g1
  refine .seq ((.region (.v (.move rfl) ?_)))
  refine .ef (.callT (To b3 tk tk.left :: TBh t b B (.slice A1 B.bs.length c1) (.slice A2 B.ss.length c2) ve k1 k2 ke) rfl rfl (fun w' s' => trade_ok w' t b b3 B evs tk hs _ _ ve k1 k2 ke h1 h2 hE hOk hnn (by omega))) ?_
  rintro _ _ ⟨_, ⟨h, rfl, ⟨v1', v2', ve', k1', k2', ke', rfl, h1', h2', hE'⟩⟩, rfl⟩
  obtain ⟨zok, zlen, zev, zl⟩ := (tr_run (meet := B.meet) (t := tk) hOk).ok hOk
  have hmu := mu_le hOk
  have eC0 : B.comes evs tk = (if (tr B.meet tk (B.ts evs tk)).left = 0 then (B.traded tk (tr B.meet tk (B.ts evs tk)), (tr B.meet tk (B.ts evs tk)).evs)
      else if tk.kind ≠ 1 ∧ tk.kind ≠ 5 then ((B.traded tk (tr B.meet tk (B.ts evs tk))).num (nx (B.traded tk (tr B.meet tk (B.ts evs tk))).seq), (tr B.meet tk (B.ts evs tk)).evs ++ [(evCancel tk.o.id (tr B.meet tk (B.ts evs tk)).left 3).num (nx (B.traded tk (tr B.meet tk (B.ts evs tk))).seq)])
      else ((B.traded tk (tr B.meet tk (B.ts evs tk))).put tk.side (rst tk.side (restOf tk.o (tr B.meet tk (B.ts evs tk)).left) ((B.traded tk (tr B.meet tk (B.ts evs tk))).side tk.side)), (tr B.meet tk (B.ts evs tk)).evs)) := by
    unfold Bk.comes; rw [if_neg g1']
  rw [eC0]
  have hL : ∀ z : TS, z.L.length ≤ (B.ts evs tk).L.length → (B.traded tk z).bs.length ≤ 1000000 ∧ (B.traded tk z).ss.length ≤ 1000000 := fun z hz => by
    unfold Bk.traded Bk.put Bk.num
    split <;> simp <;> omega
  have hL2 := hL _ zlen
  have hev0 : (B.ts evs tk).evs.length = evs.length := rfl
  generalize tr B.meet tk (B.ts evs tk) = z at *
  have ezlo := zok.lo
  have ezhi := zok.hi
  generalize B.traded tk z = B1 at *
  refine .nil ?_
  refine .keep (To b3 tk z.left :: TBh t b B1 v1' v2' ve' k1' k2' ke') ?_
  refine .seq (.seq ((.region (.v (.fieldAddr rfl) (.v (.load (v := .int .u64 z.left) rfl (.one rfl)) (.v (.eqi rfl rfl) (.nil ?_)))))))
  refine .cond_dec rfl (fun g2 => ?_) (fun g2 => .skip ?_)
  · rw [if_pos g2]
    exact .ret ⟨[], trivial, _, fun _ s => Sat.take (pre := TBh t b B1 v1' v2' ve' k1' k2' ke') s, v1', v2', ve', k1', k2', ke', rfl, h1', h2', hE'⟩
  rw [if_neg g2]
  refine .seq (.seq ((.region (.v (.fieldAddr rfl) (.v (.load (v := .int .i64 tk.kind) rfl (.one rfl)) (.v (.nei rfl rfl) (.v (.move rfl) (.and 29 32 3 3 rfl rfl (fun g2 => .v (.fieldAddr rfl) (.v (.load (v := .int .i64 tk.kind) rfl (.one rfl)) (.v (.nei rfl rfl) (.nil ⟨rfl, rfl, rfl, rfl⟩)))) (.nil ?_)))))))))
  refine .cond rfl (fun g3 => ?_) (fun g3 => .skip ?_) <;> simp only [Bool.and_eq_true, Bool.or_eq_true, Bool.not_eq_true', Bool.and_eq_false_iff, Bool.or_eq_false_iff, Bool.not_eq_false', decide_eq_true_eq, decide_eq_false_iff_not, Bool.false_eq_true, false_iff] at g3
  · rw [if_pos g3]
    refine .seq ((.region (.v (.move rfl) (.v (.fieldAddr rfl) (.v (.fieldAddr rfl) (.v (.load (v := .int .u64 tk.o.id) rfl (.one rfl)) (.v (.fieldAddr rfl) (.v (.load (v := .int .u64 z.left) rfl (.one rfl)) (.v (.build (out := (evCancel tk.o.id z.left 3).cells) rfl rfl) ?_)))))))))
    refine .ef (.callT (TBh t b B1 v1' v2' ve' k1' k2' ke') rfl rfl (fun w' s' => tellB_ok w' t b B1 z.evs (evCancel tk.o.id z.left 3) _ _ ve' k1' k2' ke' h1' h2' hE' (by omega))) ?_
    rintro _ _ ⟨_, ⟨v1x, v2x, vex, k1x, k2x, kex, rfl, h1x, h2x, hEx⟩, rfl⟩
    exact .nil (.ret ⟨[], trivial, _, fun _ s => Sat.take (pre := TBh t b (B1.num (nx B1.seq)) v1x v2x vex k1x k2x kex) s, v1x, v2x, vex, k1x, k2x, kex, rfl, h1x, h2x, hEx⟩)
  rw [if_neg (by omega)]
  obtain ⟨lv, hlv⟩ : ∃ lv, (if 0 < tk.o.pk then min tk.o.pk z.left else z.left) = lv := ⟨_, rfl⟩
  have hU := hpk
  unfold U at hU
  have hlv2 : 0 ≤ z.left - lv ∧ z.left - lv ≤ 18446744073709551615 := by
    rw [← hlv]
    split <;> omega
  have er : restOf tk.o z.left = ⟨tk.o.id, tk.o.mb, tk.o.ty, tk.o.pr, lv, z.left - lv, tk.o.pk⟩ := by unfold restOf; rw [hlv]
  rw [er]
  refine .seq ((.region (.v (.fieldAddr rfl) (.v (.load (v := .int .u64 z.left) rfl (.one rfl)) (.v (.fieldAddr rfl) (.v (.fieldAddr rfl) (.st (.storeL rfl rfl rfl) (.nil ?_))))))))
  refine .mid (X := Unit) (fun _ => [(0, .pointer (some ⟨t, 0, none⟩)), (3, .pointer (some ⟨b3, 0, none⟩))]) (fun _ => To b3 ⟨⟨tk.o.id, tk.o.mb, tk.o.ty, tk.o.pr, lv, tk.o.hd, tk.o.pk⟩, tk.side, tk.kind, tk.left⟩ z.left :: TBh t b B1 v1' v2' ve' k1' k2' ke') (fun _ => True)
    (.seq ((.region (.v (.fieldAddr rfl) (.v (.fieldAddr rfl) (.v (.load (v := .int .u64 tk.o.pk) rfl (.one rfl)) (.v (.gtr rfl rfl) (.nil ?_)))))))) ?_
  · refine .cond_dec rfl (fun g4 => ?_) (fun g4 => .skip ?_)
    · refine .region (.v (.fieldAddr rfl) (.v (.fieldAddr rfl) (.v (.load (v := .int .u64 tk.o.pk) rfl (.one rfl)) (.v (.fieldAddr rfl) (.v (.load (v := .int .u64 z.left) rfl (.one rfl)) (.v (.min2 rfl rfl) (.v (.fieldAddr rfl) (.v (.fieldAddr rfl) (.st (.storeL rfl rfl rfl) (.nil ?_))))))))))
      have e : min tk.o.pk z.left = lv := by rw [← hlv, if_pos g4]
      rw [e]
      exact ⟨(), trivial, .cons rfl (.cons rfl (.nil _)), fun _ s => s⟩
    · have e : z.left = lv := by rw [← hlv, if_neg g4]
      refine ⟨(), trivial, .cons rfl (.cons rfl (.nil _)), fun _ s => ?_⟩
      rw [← e]
      exact s
  · rintro _ _
    refine .seq ((.region (.v (.fieldAddr rfl) (.v (.load (v := .int .u64 z.left) rfl (.one rfl)) (.v (.fieldAddr rfl) (.v (.fieldAddr rfl) (.v (.load (v := .int .u64 lv) rfl (.one rfl)) (.v (.subU (z.left - lv) rfl rfl rfl hlv2) (.v (.fieldAddr rfl) (.v (.fieldAddr rfl) (.st (.storeL rfl rfl rfl) (.nil ?_))))))))))))
    refine (.drawK [Tt t b ve', (b3, Ch.cells [.int .u64 tk.o.id, .int .u32 tk.o.mb, .int .i64 tk.o.ty, .int .i64 tk.o.pr, .int .u64 lv, .int .u64 (z.left - lv), .int .u64 tk.o.pk, .int .i64 tk.side, .int .i64 tk.kind, .int .u64 z.left] 89)] (by intro p hp; simp at hp ⊢; rcases hp with rfl | rfl <;> simp) (by kernel_rfl) (by kernel_rfl) ?_)
    refine .v (fun _ f => .move rfl) (.v (fun _ f => .nilCheck rfl) (.v (fun _ f => .fieldAddr rfl) (.v (fun _ f => .load (v := .pointer (some ⟨b, 0, none⟩)) rfl (.one (hb := .sub f) rfl)) (.v (fun _ f => .fieldAddr rfl) (.v (fun _ f => .load (v := .int .i64 tk.side) rfl (.one (hb := .sub f) rfl)) (.v (fun _ f => .fieldAddr rfl) (.v (fun _ f => .loadA (vs := [.int .u64 tk.o.id, .int .u32 tk.o.mb, .int .i64 tk.o.ty, .int .i64 tk.o.pr, .int .u64 lv, .int .u64 (z.left - lv), .int .u64 tk.o.pk]) rfl (.chunk (hb := .sub f) (fun j v hv => ?_)) rfl) ?_)))))))
    · match j, hv with
      | 0, hv => exact hv
      | 1, hv => exact hv
      | 2, hv => exact hv
      | 3, hv => exact hv
      | 4, hv => exact hv
      | 5, hv => exact hv
      | 6, hv => exact hv
      | _ + 7, hv => cases hv
    refine .ef (.callT (Tb b (Bc B1 v1' v2') :: (k1' ++ k2')) rfl rfl (fun w' s' => restB_ok w' b B1 tk.side hs ⟨tk.o.id, tk.o.mb, tk.o.ty, tk.o.pr, lv, z.left - lv, tk.o.pk⟩ _ _ k1' k2' h1' h2' hL2.1 hL2.2)) (fun _ _ ⟨_, _, e⟩ _ => by subst e; intro p hp; simp at hp ⊢; rcases hp with rfl | rfl <;> simp) ?_
    rintro _ _ ⟨_, ⟨v1x, v2x, k1x, k2x, rfl, h1x, h2x⟩, rfl⟩
    exact .nil ⟨[], trivial, _, fun _ s => Sat.take (pre := TBh t b (B1.put tk.side (rst tk.side ⟨tk.o.id, tk.o.mb, tk.o.ty, tk.o.pr, lv, z.left - lv, tk.o.pk⟩ (B1.side tk.side))) v1x v2x ve' k1x k2x ke') s, v1x, v2x, ve', k1x, k2x, ke', rfl, h1x, h2x, hE'⟩
end Go.Proofs.Ytmfobfamdaajmaa

/- (*Book).Do: what it does. -/
namespace Go.Proofs.Ytmfobfamdaajmaa
open Go.V
set_option linter.unusedVariables false
set_option linter.unusedSimpArgs false

def evReject (id target code : Int) : Ev := ⟨0, 2, id, 0, target, 0, 0, 0, 0, 0, 0, 0, code⟩
def evAck (t : Tk) : Ev := ⟨0, 1, t.o.id, 0, 0, t.o.mb, t.side, t.kind, t.o.pr, t.left, t.o.pk, 0, 0⟩
def Bk.top (B : Bk) (h : Int) : Bk := ⟨B.cap, B.meet, B.bs, B.ss, h, B.seq⟩
/-- where the order that a command speaks of stands; the order -/
def Bk.at_ (B : Bk) (c : Cm) : Int × Int × Bool := plc c.tg B.bs B.ss
def Bk.tgt (B : Bk) (c : Cm) : Option Ord := if (B.at_ c).2.2 then (B.side (B.at_ c).1)[(B.at_ c).2.1.toNat]? else none
def Bk.why (B : Bk) (c : Cm) : Int := rfs B.cap B.high B.bs B.ss c (B.tgt c) (B.at_ c).1
/-- the order that a command speaks of goes -/
def Bk.goes (B : Bk) (c : Cm) : Bk := if c.k ≠ 1 then (B.put (B.at_ c).1 ((B.side (B.at_ c).1).eraseIdx (B.at_ c).2.1.toNat)).num (nx B.seq) else B
def Bk.gone (B : Bk) (c : Cm) : List Ev := if c.k ≠ 1 then (match B.tgt c with | some o => [(evCancel c.tg (o.v + o.hd) (if c.k = 3 then 2 else 1)).num (nx B.seq)] | none => []) else []
def Bk.does (B : Bk) (c : Cm) : Bk × List Ev :=
  if B.why c ≠ 0 then (B.num (nx B.seq), [(evReject (if c.k = 2 then 0 else c.id) (if c.k = 1 then 0 else c.tg) (B.why c)).num (nx B.seq)])
  else if c.k ≠ 2 then Bk.comes (((B.goes c).num (nx (B.goes c).seq)).top (cmg c (B.tgt c) (B.at_ c).1).o.id) (B.gone c ++ [(evAck (cmg c (B.tgt c) (B.at_ c).1)).num (nx (B.goes c).seq)]) (cmg c (B.tgt c) (B.at_ c).1)
  else (B.goes c, B.gone c)
theorem at_spec (B : Bk) (c : Cm) : (B.at_ c = (0, 0, false) ∧ B.tgt c = none ∧ (∀ o ∈ B.bs ++ B.ss, o.id ≠ c.tg)) ∨
    ∃ s : Int, (s = 1 ∨ s = 2) ∧ ∃ i, ∃ hi : i < (B.side s).length, B.at_ c = (s, (i : Int), true) ∧ B.tgt c = some (B.side s)[i] ∧ (B.side s)[i].id = c.tg := by
  have hsome : ∀ (s : Int) (i : Nat) (hi : i < (B.side s).length), B.at_ c = (s, (i : Int), true) → B.tgt c = some (B.side s)[i] := fun s i hi h => by
    unfold Bk.tgt; rw [h]; simp [hi]
  rcases idx_spec c.tg B.bs with ⟨h1, n1⟩ | ⟨i, hi, h1, h2, h3⟩
  · rcases idx_spec c.tg B.ss with ⟨h2, n2⟩ | ⟨i, hi, h2, h3, h4⟩
    · refine .inl ⟨?_, ?_, fun o ho => ?_⟩
      · unfold Bk.at_ plc; rw [h1, h2]; rfl
      · have : B.at_ c = (0, 0, false) := by unfold Bk.at_ plc; rw [h1, h2]; rfl
        unfold Bk.tgt; rw [this]; rfl
      · rcases List.mem_append.1 ho with ho | ho
        · obtain ⟨m, hm, rfl⟩ := List.mem_iff_getElem.1 ho; exact n1 m hm
        · obtain ⟨m, hm, rfl⟩ := List.mem_iff_getElem.1 ho; exact n2 m hm
    · have e : B.at_ c = (2, (i : Int), true) := by unfold Bk.at_ plc; rw [h1, h2, if_neg (by omega), if_pos (by omega)]
      exact .inr ⟨2, .inr rfl, i, hi, e, hsome 2 i hi e, h3⟩
  · have e : B.at_ c = (1, (i : Int), true) := by unfold Bk.at_ plc; rw [h1, if_pos (by omega)]
    exact .inr ⟨1, .inl rfl, i, hi, e, hsome 1 i hi e, h2⟩
/-- the order that a command speaks of, in a block of its own -/
def TgH (tp : Option Addr) (h : Hp) : Option Ord → Prop
  | none => tp = none ∧ h = []
  | some o => ∃ bt, tp = some ⟨bt, 0, none⟩ ∧ h = [(bt, .cells o.cells 53)]
theorem TgH.rd {w0 w : World} {own : List Nat} {hs h : Hp} {tp : Option Addr} {tg : Option Ord} (k : TgH tp h tg) (s : Sat w0 own hs w) (hh : h ⊆ hs) : TgR w [] tp tg := by
  cases tg with
  | none => exact k.1
  | some o =>
    obtain ⟨bt, rfl, rfl⟩ := k
    refine ⟨bt, rfl, fun j v hv => ⟨bt, 0, rfl, by simp, ?_⟩⟩
    rw [s.cell (hh List.mem_cons_self), Nat.zero_add]; exact hv
theorem rows_erase (l : List Ord) (i : Nat) : (rows l).take (i * 7) ++ (rows l).drop ((i + 1) * 7) = rows (l.eraseIdx i) := by
  rw [rows_take, rows_drop, ← rows_app, List.eraseIdx_eq_take_drop_succ]
/-- a book whose orders are good, and that is not too great -/
structure Bk.Ok (B : Bk) : Prop where
  good : ∀ o ∈ B.bs ++ B.ss, o.G
  len : B.bs.length + B.ss.length ≤ 100000
theorem Bk.side_sub (B : Bk) (s : Int) : ∀ o ∈ B.side s, o ∈ B.bs ++ B.ss := fun o ho => by
  unfold Bk.side at ho
  split at ho <;> simp [ho]
theorem Bk.put_mem {B : Bk} {s : Int} {l : List Ord} {o : Ord} (h : o ∈ (B.put s l).bs ++ (B.put s l).ss) : o ∈ l ∨ o ∈ B.bs ++ B.ss := by
  unfold Bk.put at h
  split at h <;> simp at h ⊢ <;> rcases h with h | h <;> simp [h]
theorem Bk.goes_mem {B : Bk} {c : Cm} {o : Ord} (h : o ∈ (B.goes c).bs ++ (B.goes c).ss) : o ∈ B.bs ++ B.ss := by
  unfold Bk.goes at h
  split at h
  · rcases Bk.put_mem h with h | h
    · exact B.side_sub _ _ (List.mem_of_mem_eraseIdx h)
    · exact h
  · exact h
theorem Bk.goes_len (B : Bk) (c : Cm) : (B.goes c).bs.length ≤ B.bs.length ∧ (B.goes c).ss.length ≤ B.ss.length := by
  unfold Bk.goes
  split
  · unfold Bk.put Bk.num Bk.side
    split
    · exact ⟨List.length_eraseIdx_le .., Nat.le_refl _⟩
    · exact ⟨Nat.le_refl _, List.length_eraseIdx_le ..⟩
  · exact ⟨Nat.le_refl _, Nat.le_refl _⟩
theorem cmg_facts {c : Cm} {tg : Option Ord} {side : Int} : (cmg c tg side).left = c.q ∧ (cmg c tg side).o.pk = c.pk ∧ (cmg c tg side).o.id = c.id ∧ (cmg c tg side).o.pr = c.pr := by
  unfold cmg
  cases tg with
  | none => exact ⟨rfl, rfl, rfl, rfl⟩
  | some o => simp only; split <;> exact ⟨rfl, rfl, rfl, rfl⟩
theorem cmg_side {c : Cm} {tg : Option Ord} {side : Int} (h0 : c.chk = 0) (h2 : c.k ≠ 2) (h3 : c.k = 3 → tg ≠ none) (hs : tg ≠ none → side = 1 ∨ side = 2) : (cmg c tg side).side = 1 ∨ (cmg c tg side).side = 2 := by
  have hk := chk_kinds (c := c) (by rw [h0]; decide)
  unfold cmg
  cases tg with
  | none =>
    refine chk_side h0 ?_
    rcases hk with h | h | h
    · exact h
    · exact absurd h h2
    · exact absurd rfl (h3 h)
  | some o =>
    simp only
    split
    · exact hs (by simp)
    · rename_i hk'
      refine chk_side h0 ?_
      rcases hk with h | h | h
      · exact h
      · exact absurd h h2
      · exact absurd h hk'
theorem rfs_zero {cap high : Int} {bs ss : List Ord} {c : Cm} {tg : Option Ord} {side : Int} (h : rfs cap high bs ss c tg side = 0) : (c.k ≠ 1 → tg ≠ none) ∧ c.chk = 0 ∧ (c.k ≠ 2 → high < c.id) ∧
    (c.k = 1 → (cmg c tg side).kind = 1 ∨ (cmg c tg side).kind = 5 → (bs.length : Int) + ss.length < cap) ∧ (c.k ≠ 2 → (cmg c tg side).kind = 5 → headReach (cmg c tg side).side (cmg c tg side).kind (cmg c tg side).o.pr (if (cmg c tg side).side = 1 then ss else bs) = false) := by
  unfold rfs at h
  by_cases h1 : c.chk = 90
  · rw [if_pos h1] at h; omega
  rw [if_neg h1] at h
  by_cases h2 : c.k ≠ 1 ∧ tg = none
  · rw [if_pos h2] at h; omega
  rw [if_neg h2] at h
  by_cases h3 : c.chk ≠ 0
  · rw [if_pos h3] at h; omega
  rw [if_neg h3] at h
  by_cases h4 : c.k = 2
  · exact ⟨fun a b => h2 ⟨a, b⟩, by omega, fun a => absurd h4 a, fun a => by omega, fun a => absurd h4 a⟩
  rw [if_neg h4] at h
  by_cases h5 : c.id ≤ high
  · rw [if_pos h5] at h; omega
  rw [if_neg h5] at h
  by_cases h6 : c.k = 1 ∧ ((cmg c tg side).kind = 1 ∨ (cmg c tg side).kind = 5) ∧ cap ≤ bs.length + ss.length
  · rw [if_pos h6] at h; omega
  rw [if_neg h6] at h
  by_cases h7 : (cmg c tg side).kind = 5 ∧ headReach (cmg c tg side).side (cmg c tg side).kind (cmg c tg side).o.pr (if (cmg c tg side).side = 1 then ss else bs) = true
  · rw [if_pos h7] at h; omega
  refine ⟨fun a b => h2 ⟨a, b⟩, by omega, fun _ => by omega, fun a b => ?_, fun _ a => ?_⟩
  · rcases Int.lt_or_le ((bs.length : Int) + ss.length) cap with hh | hh
    · exact hh
    · exact absurd ⟨a, b, hh⟩ h6
  · rw [Bool.eq_false_iff]; exact fun b => h7 ⟨a, b⟩
end Go.Proofs.Ytmfobfamdaajmaa

/- (*Book).Do: its walk. -/
namespace Go.Proofs.Ytmfobfamdaajmaa
open Go.V
set_option linter.unusedVariables false
set_option linter.unusedSimpArgs false

structure MS where
  v1 : Value
  v2 : Value
  ve : Value
  k1 : Hp
  k2 : Hp
  ke : Hp
abbrev MS.H (m : MS) (t b : Nat) (B : Bk) : Hp := TBh t b B m.v1 m.v2 m.ve m.k1 m.k2 m.ke
def MS.I (m : MS) (B : Bk) (evs : List Ev) : Prop := Side m.v1 B.bs m.k1 ∧ Side m.v2 B.ss m.k2 ∧ Evs m.ve evs m.ke
theorem gone_len (B : Bk) (c : Cm) : (B.gone c).length ≤ 1 := by
  unfold Bk.gone
  split
  · cases B.tgt c <;> simp
  · simp
set_option maxRecDepth 20000 in
set_option maxHeartbeats 1000000 in
theorem do_ok (w : World) (b : Nat) (B : Bk) (hOk : B.Ok) (c : Cm) (hq : U c.q) (hpk : U c.pk) (v1 v2 : Value) (k1 k2 : Hp) (h1 : Side v1 B.bs k1) (h2 : Side v2 B.ss k2) :
    Does Try.prog 22 [.pointer (some ⟨b, 0, none⟩), .agg ⟨c.cells⟩] (Tb b (Bc B v1 v2) :: (k1 ++ k2)) w
      (fun v hs => ∃ h ke, hs = h ++ ke ∧ BkH b (B.does c).1 h ∧ Evs v (B.does c).2 ke) := by
  have hlen := hOk.len
  obtain ⟨A1, c1, rfl⟩ := OwnS.sl h1
  obtain ⟨A2, c2, rfl⟩ := OwnS.sl h2
  have hsp := at_spec B c
  have hside : B.tgt c ≠ none → (B.at_ c).1 = 1 ∨ (B.at_ c).1 = 2 := by
    intro hne
    rcases hsp with ⟨_, h, _⟩ | ⟨s, hs, i, hi, e, _, _⟩
    · exact absurd h hne
    · rw [e]; exact hs
  refine Does.less (Does.of (n := 139) Try.func22 rfl rfl rfl rfl ?_)
  refine .seq ((.region (.nw (.box (l := c.cells) rfl rfl) fun b3 => (.v (.assign rfl) (.nil ?_)))))
  refine .seq ((.region (.v (.move rfl) (.v (.build (out := [.pointer (some ⟨b, 0, none⟩), .slice none 0 0]) rfl rfl) (.nw (.box (l := [.pointer (some ⟨b, 0, none⟩), .slice none 0 0]) rfl rfl) fun t => (.v (.assign rfl) (.nil ?_)))))))
  refine .seq ((.region (.v (.assign rfl) (.nil ?_))))
  refine .keep ((b3, Ch.cells c.cells 25) :: TBh t b B (.slice A1 B.bs.length c1) (.slice A2 B.ss.length c2) (.slice none 0 0) k1 k2 []) ?_
  refine .seq ((.region (.v (.move rfl) (.v (.fieldAddr rfl) (.v (.load (v := .int .u64 c.tg) rfl (.one rfl)) (.pc (v := plcV (B.at_ c)) rfl rfl (fun w s => place_ok w b B.cap B.meet B.high B.seq c.tg A1 A2 c1 c2 B.bs B.ss (Rd.chunk s (T := 67) (l := Bc B (.slice A1 B.bs.length c1) (.slice A2 B.ss.length c2)) (by simp) (fun j v hv => by rw [Nat.zero_add]; exact hv)) (OwnS.rd h1 s (no := []) (fun p hp => by simp [hp]) (by simp)) (OwnS.rd h2 s (no := []) (fun p hp => by simp [hp]) (by simp)) (by omega) (by omega)) (.v (.move rfl) (.v (.extract rfl rfl) (.v (.extract rfl rfl) (.v (.extract rfl rfl) (.v (.assign rfl) (.v (.assign rfl) (.v (.assign rfl) (.nil ?_))))))))))))))
  -- the order that is spoken of
  refine .mid (X := Option Addr × Hp) (fun x => [(0, .pointer (some ⟨b, 0, none⟩)), (3, .pointer (some ⟨b3, 0, none⟩)), (5, .pointer (some ⟨t, 0, none⟩)), (6, .pointer x.1), (7, .int .i64 (B.at_ c).1), (8, .int .i64 (B.at_ c).2.1)])
    (fun x => x.2 ++ ((b3, Ch.cells c.cells 25) :: TBh t b B (.slice A1 B.bs.length c1) (.slice A2 B.ss.length c2) (.slice none 0 0) k1 k2 [])) (fun x => TgH x.1 x.2 (B.tgt c)) (.seq ((.region (.v (.move rfl) (.nil ?_))))) ?_
  · refine .cond rfl (fun g1 => ?_) (fun g1 => .skip ?_)
    · rcases hsp with ⟨e, _, _⟩ | ⟨s, hs, i, hi, e, htg, hid⟩
      · rw [e] at g1; cases g1
      rw [e]
      rcases hs with rfl | rfl
      · have hi' : i < B.bs.length := hi
        have htg' : B.tgt c = some B.bs[i] := htg
        obtain ⟨bk, ok, lk, rfl, -, rfl, -, -, -⟩ := h1.some_ (by omega)
        generalize ho : B.bs[i] = o at htg'
        have hat : ∀ own hs', [(bk, Ch.cells lk 53)] ⊆ hs' → At w own hs' ⟨bk, ok + i * 7, none⟩ o.cells := fun own hs' hh => h1.atN hh (fun j v hv => by
          have h7 := (List.getElem?_eq_some_iff.1 hv).1
          rw [rows_get B.bs i j hi' (by simpa [Ord.cells, rcells] using h7), ho]; exact hv)
        refine .seq ((.region (.v (.move rfl) (.v (.move rfl) (.pc (v := .pointer (some ⟨b, 2, none⟩)) rfl rfl (fun w' _ => side_ok w' b 1) (.v (.nilCheck rfl) (.v (.load (v := .slice (some ⟨bk, ok, none⟩) B.bs.length c1) rfl (.one rfl)) (.v (.move rfl) (.v (.indexAddr (i := (i : Int)) rfl rfl (by omega) (by omega)) (.v (.loadA (vs := o.cells) rfl (hat _ _ (fun p hp => by simp at hp ⊢; simp [hp])) rfl) (.nw .alloc fun b10 => (.st (.sw rfl rfl) (.nil ?_)))))))))))))
        refine .region (.v (.assign rfl) (.nil ?_))
        exact ⟨(some ⟨b10, 0, none⟩, [(b10, Ch.cells o.cells 53)]), by rw [htg']; exact ⟨b10, rfl, rfl⟩, .cons rfl (.cons rfl (.cons rfl (.cons rfl (.cons rfl (.cons rfl (.nil _)))))), fun _ s => s⟩
      · have hi' : i < B.ss.length := hi
        have htg' : B.tgt c = some B.ss[i] := htg
        obtain ⟨bk, ok, lk, rfl, -, rfl, -, -, -⟩ := h2.some_ (by omega)
        generalize ho : B.ss[i] = o at htg'
        have hat : ∀ own hs', [(bk, Ch.cells lk 53)] ⊆ hs' → At w own hs' ⟨bk, ok + i * 7, none⟩ o.cells := fun own hs' hh => h2.atN hh (fun j v hv => by
          have h7 := (List.getElem?_eq_some_iff.1 hv).1
          rw [rows_get B.ss i j hi' (by simpa [Ord.cells, rcells] using h7), ho]; exact hv)
        refine .seq ((.region (.v (.move rfl) (.v (.move rfl) (.pc (v := .pointer (some ⟨b, 3, none⟩)) rfl rfl (fun w' _ => side_ok w' b 2) (.v (.nilCheck rfl) (.v (.load (v := .slice (some ⟨bk, ok, none⟩) B.ss.length c2) rfl (.one rfl)) (.v (.move rfl) (.v (.indexAddr (i := (i : Int)) rfl rfl (by omega) (by omega)) (.v (.loadA (vs := o.cells) rfl (hat _ _ (fun p hp => by simp at hp ⊢; simp [hp])) rfl) (.nw .alloc fun b10 => (.st (.sw rfl rfl) (.nil ?_)))))))))))))
        refine .region (.v (.assign rfl) (.nil ?_))
        exact ⟨(some ⟨b10, 0, none⟩, [(b10, Ch.cells o.cells 53)]), by rw [htg']; exact ⟨b10, rfl, rfl⟩, .cons rfl (.cons rfl (.cons rfl (.cons rfl (.cons rfl (.cons rfl (.nil _)))))), fun _ s => s⟩
    · have htg : B.tgt c = none := by
        rcases hsp with ⟨_, h, _⟩ | ⟨s, hs, i, hi, e, _, _⟩
        · exact h
        · rw [e] at g1; cases g1
      exact ⟨(none, []), by rw [htg]; exact ⟨rfl, rfl⟩, .cons rfl (.cons rfl (.cons rfl (.cons rfl (.cons rfl (.cons rfl (.nil _)))))), fun _ s => s⟩
  rintro ⟨tp, ht⟩ hT
  dsimp only at hT ⊢
  refine .seq (.seq ((.region (.v (.move rfl) (.v (.loadA (vs := c.cells) rfl .whole rfl) (.v (.move rfl) (.v (.move rfl) (.pc (v := .int .i64 (rfs B.cap B.high B.bs B.ss c (B.tgt c) (B.at_ c).1)) rfl rfl (fun w' s => refused_ok w' b B.cap B.meet B.high B.seq A1 A2 c1 c2 B.bs B.ss (Rd.chunk s (T := 67) (l := Bc B (.slice A1 B.bs.length c1) (.slice A2 B.ss.length c2)) (by simp) (fun j v hv => by rw [Nat.zero_add]; exact hv)) (OwnS.rd h1 s (no := []) (fun p hp => by simp [hp]) (by simp)) (OwnS.rd h2 s (no := []) (fun p hp => by simp [hp]) (by simp)) (by omega) (by omega) c tp (B.tgt c) (B.at_ c).1 (hT.rd s (fun p hp => by simp [hp])) hside) (.v (.assign rfl) (.nil ?_))))))))))
  have ew : rfs B.cap B.high B.bs B.ss c (B.tgt c) (B.at_ c).1 = B.why c := rfl
  rw [ew]
  refine .seq ((.region (.v (.move rfl) (.v (.nei rfl rfl) (.nil ?_)))))
  refine .cond_dec rfl (fun g2 => ?_) (fun g2 => .skip ?_)
  · have eD : B.does c = (B.num (nx B.seq), [(evReject (if c.k = 2 then 0 else c.id) (if c.k = 1 then 0 else c.tg) (B.why c)).num (nx B.seq)]) := by unfold Bk.does; rw [if_pos g2]
    refine .seq ((.region (.v (.fieldAddr rfl) (.v (.load (v := .int .u64 c.id) rfl (.one rfl)) (.v (.fieldAddr rfl) (.v (.load (v := .int .u64 c.tg) rfl (.one rfl)) (.v (.move rfl) (.v (.build (out := [.int .u64 0, .int .i64 2, .int .u64 c.id, .int .u64 0, .int .u64 c.tg, .int .u32 0, .int .i64 0, .int .i64 0, .int .i64 0, .int .u64 0, .int .u64 0, .int .i64 0, .int .i64 (B.why c)]) rfl rfl) (.nw .alloc fun b12 => (.st (.sw rfl rfl) (.nil ?_)))))))))))
    refine .mid (X := Unit) (fun _ => [(5, .pointer (some ⟨t, 0, none⟩)), (12, .pointer (some ⟨b12, 0, none⟩))]) (fun _ => (b12, Ch.cells [.int .u64 0, .int .i64 2, .int .u64 (if c.k = 2 then 0 else c.id), .int .u64 0, .int .u64 (if c.k = 1 then 0 else c.tg), .int .u32 0, .int .i64 0, .int .i64 0, .int .i64 0, .int .u64 0, .int .u64 0, .int .i64 0, .int .i64 (B.why c)] 50) :: TBh t b B (.slice A1 B.bs.length c1) (.slice A2 B.ss.length c2) (.slice none 0 0) k1 k2 []) (fun _ => True)
      (.seq ((.region (.v (.fieldAddr rfl) (.v (.load (v := .int .i64 c.k) rfl (.one rfl)) (.nil ?_)))))) ?_
    · refine .block (.seq ((.region (.v (.eqi rfl rfl) (.v (.assign rfl) (.nil ?_))))))
      refine .cond_dec rfl (fun g3 => ?_) (fun g3 => ?_)
      · refine .region (.v (.fieldAddr rfl) (.st (.storeL rfl rfl rfl) (.nil ?_)))
        refine ⟨(), trivial, .cons rfl (.cons rfl (.nil _)), fun _ s => ?_⟩
        rw [if_pos g3, if_neg (by omega)]
        exact s.take
      · refine .seq ((.region (.v (.eqi rfl rfl) (.v (.assign rfl) (.nil ?_)))))
        refine .cond_dec rfl (fun g4 => ?_) (fun g4 => .skip ?_)
        · refine .region (.v (.fieldAddr rfl) (.st (.storeL rfl rfl rfl) (.nil ?_)))
          refine ⟨(), trivial, .cons rfl (.cons rfl (.nil _)), fun _ s => ?_⟩
          rw [if_neg g3, if_pos g4]
          exact s.take
        · refine ⟨(), trivial, .cons rfl (.cons rfl (.nil _)), fun _ s => ?_⟩
          rw [if_neg g3, if_neg g4]
          exact s.take
    · rintro _ _
      refine .seq ((.region (.v (.move rfl) (.v (.loadA (vs := (evReject (if c.k = 2 then 0 else c.id) (if c.k = 1 then 0 else c.tg) (B.why c)).cells) rfl .whole rfl) ?_))))
      refine .ef (.callT (TBh t b B (.slice A1 B.bs.length c1) (.slice A2 B.ss.length c2) (.slice none 0 0) k1 k2 []) rfl rfl (fun w' s' => tellB_ok w' t b B [] (evReject (if c.k = 2 then 0 else c.id) (if c.k = 1 then 0 else c.tg) (B.why c)) _ _ _ k1 k2 [] h1 h2 (OwnS.nil _ _) (by simp))) ?_
      rintro _ _ ⟨_, ⟨v1x, v2x, vex, k1x, k2x, kex, rfl, h1x, h2x, hEx⟩, rfl⟩
      refine .nil ?_
      refine .seq ((.region (.v (.move rfl) (.v (.nilCheck rfl) (.v (.fieldAddr rfl) (.v (.load (v := vex) rfl (.one rfl)) (.v (.assign rfl) (.nil ?_))))))))
      refine .ret ⟨[_], ⟨rfl, trivial⟩, _, fun _ s => Sat.take (pre := (Tb b (Bc (B.num (nx B.seq)) v1x v2x) :: (k1x ++ k2x)) ++ kex) s, ?_⟩
      rw [eD]
      exact ⟨_, kex, rfl, ⟨v1x, v2x, k1x, k2x, rfl, h1x, h2x⟩, hEx⟩
  · have g2' : B.why c = 0 := Decidable.of_not_not g2
    obtain ⟨z1, z2, z3, z4, z5⟩ := rfs_zero g2'
    obtain ⟨h3f, h3b⟩ : (c.k ≠ 1 → B.tgt c ≠ none) ∧ c.chk = 0 := ⟨z1, z2⟩
    refine .mid (X := MS) (fun _ => [(0, .pointer (some ⟨b, 0, none⟩)), (3, .pointer (some ⟨b3, 0, none⟩)), (5, .pointer (some ⟨t, 0, none⟩)), (6, .pointer tp), (7, .int .i64 (B.at_ c).1)]) (fun m => ht ++ ((b3, Ch.cells c.cells 25) :: m.H t b (B.goes c))) (fun m => m.I (B.goes c) (B.gone c))
      (.seq ((.region (.v (.fieldAddr rfl) (.v (.load (v := .int .i64 c.k) rfl (.one rfl)) (.v (.nei rfl rfl) (.nil ?_))))))) ?_
    · refine .cond_dec rfl (fun g5 => ?_) (fun g5 => .skip ?_)
      · refine .seq ((.region (.v (.assign rfl) (.nil ?_))))
        refine .mid (X := Unit) (fun _ => [(0, .pointer (some ⟨b, 0, none⟩)), (3, .pointer (some ⟨b3, 0, none⟩)), (5, .pointer (some ⟨t, 0, none⟩)), (6, .pointer tp), (7, .int .i64 (B.at_ c).1), (8, .int .i64 (B.at_ c).2.1), (13, .int .i64 (if c.k = 3 then 2 else 1))]) (fun _ => ht ++ ((b3, Ch.cells c.cells 25) :: TBh t b B (.slice A1 B.bs.length c1) (.slice A2 B.ss.length c2) (.slice none 0 0) k1 k2 [])) (fun _ => True)
          (.seq ((.region (.v (.fieldAddr rfl) (.v (.load (v := .int .i64 c.k) rfl (.one rfl)) (.v (.eqi rfl rfl) (.nil ?_))))))) ?_
        · refine .cond_dec rfl (fun g6 => ?_) (fun g6 => .skip ?_)
          · refine .region (.v (.assign rfl) (.nil ?_))
            exact ⟨(), trivial, .cons rfl (.cons rfl (.cons rfl (.cons rfl (.cons rfl (.cons rfl (.cons (by rw [if_pos g6]; rfl) (.nil _))))))), fun _ s => s⟩
          · exact ⟨(), trivial, .cons rfl (.cons rfl (.cons rfl (.cons rfl (.cons rfl (.cons rfl (.cons (by rw [if_neg g6]; rfl) (.nil _))))))), fun _ s => s⟩
        · rintro _ _
          obtain ⟨rs, hrs⟩ : ∃ rs : Int, (if c.k = 3 then 2 else 1) = rs := ⟨_, rfl⟩
          rw [hrs]
          rcases hsp with ⟨_, h, _⟩ | ⟨s, hs, i, hi, e, htg, hid⟩
          · exact absurd h (h3f g5)
          have hgood : (B.side s)[i].G := hOk.good _ (B.side_sub s _ (List.getElem_mem hi))
          generalize ho : (B.side s)[i] = o at htg hgood
          have egone : B.gone c = [(evCancel c.tg (o.v + o.hd) rs).num (nx B.seq)] := by unfold Bk.gone; rw [if_pos g5, htg, ← hrs]
          have egoes : B.goes c = (B.put s ((B.side s).eraseIdx i)).num (nx B.seq) := by unfold Bk.goes; rw [if_pos g5, e]; simp
          rw [egone, egoes]
          rw [htg] at hT
          obtain ⟨bt, rfl, rfl⟩ := hT
          obtain ⟨q1, q2, q3, q4, q5, q6⟩ := hgood
          rw [e]
          rcases hs with rfl | rfl
          · have hi' : i < B.bs.length := hi
            refine .seq ((.region (.v (.move rfl) (.v (.move rfl) (.pc (v := .pointer (some ⟨b, 2, none⟩)) rfl rfl (fun w' _ => side_ok w' b 1) (.v (.assign rfl) (.nil ?_)))))))
            refine .seq ((.region (.v (.move rfl) (.v (.move rfl) (.v (.nilCheck rfl) (.v (.load (v := .slice A1 B.bs.length c1) rfl (.one rfl)) (.v (.move rfl) (.v (.move rfl) (.v (.addi (i := (i : Int)) rfl rfl (by omega)) ?_)))))))))
            refine .ef (.callT k1 rfl rfl (fun w' s' => delete_ok w' A1 B.bs.length c1 i (rows B.bs) k1 h1 hi' (by omega) (rows_ones _))) ?_
            rintro v' _ ⟨ks', hS0, rfl⟩
            have hS' : Side v' (B.bs.eraseIdx i) ks' := by
              unfold Side
              rw [List.length_eraseIdx_of_lt hi', ← rows_erase]; exact hS0
            obtain ⟨A', c', rfl⟩ := OwnS.sl hS'
            refine .v (.nilCheck rfl) (.st (.storeL rfl rfl rfl) (.nil ?_))
            refine .keep ([(bt, Ch.cells o.cells 53)] ++ ((b3, Ch.cells c.cells 25) :: TBh t b ⟨B.cap, B.meet, B.bs.eraseIdx i, B.ss, B.high, B.seq⟩ (.slice A' (B.bs.eraseIdx i).length c') (.slice A2 B.ss.length c2) (.slice none 0 0) ks' k2 [])) ?_
            refine (.drawK [(bt, Ch.cells o.cells 53), (b3, Ch.cells c.cells 25)] (by intro p hp; simp at hp ⊢; rcases hp with rfl | rfl <;> simp) (by kernel_rfl) (by kernel_rfl) ?_)
            refine .v (fun _ f => .move rfl) (.v (fun _ f => .fieldAddr rfl) (.v (fun _ f => .load (v := .int .u64 c.tg) rfl (.one (hb := .sub f) rfl)) (.v (fun _ f => .move rfl) (.v (fun _ f => .nilCheck rfl) (.v (fun _ f => .fieldAddr rfl) (.v (fun _ f => .load (v := .int .u64 o.v) rfl (.one (hb := .sub f) rfl)) (.v (fun _ f => .move rfl) (.v (fun _ f => .nilCheck rfl) (.v (fun _ f => .fieldAddr rfl) (.v (fun _ f => .load (v := .int .u64 o.hd) rfl (.one (hb := .sub f) rfl)) (.v (fun _ f => .addU (o.v + o.hd) rfl rfl rfl (by omega)) (.v (fun _ f => .move rfl) (.v (fun _ _ => .build (out := (evCancel c.tg (o.v + o.hd) rs).cells) rfl rfl) ?_)))))))))))))
            refine .ef (.callT (TBh t b ⟨B.cap, B.meet, B.bs.eraseIdx i, B.ss, B.high, B.seq⟩ (.slice A' (B.bs.eraseIdx i).length c') (.slice A2 B.ss.length c2) (.slice none 0 0) ks' k2 []) rfl rfl (fun w' s' => tellB_ok w' t b ⟨B.cap, B.meet, B.bs.eraseIdx i, B.ss, B.high, B.seq⟩ [] (evCancel c.tg (o.v + o.hd) rs) _ _ _ ks' k2 [] hS' h2 (OwnS.nil _ _) (by simp))) (fun _ _ ⟨_, _, e⟩ _ => by subst e; intro p hp; simp at hp ⊢; rcases hp with rfl | rfl <;> simp) ?_
            rintro _ _ ⟨_, ⟨v1x, v2x, vex, k1x, k2x, kex, rfl, h1x, h2x, hEx⟩, rfl⟩
            exact .nil ⟨⟨v1x, v2x, vex, k1x, k2x, kex⟩, ⟨h1x, h2x, hEx⟩, .cons rfl (.cons rfl (.cons rfl (.cons rfl (.cons rfl (.nil _))))), fun _ s => Sat.take (pre := [(bt, Ch.cells o.cells 53)] ++ ((b3, Ch.cells c.cells 25) :: TBh t b (((⟨B.cap, B.meet, B.bs.eraseIdx i, B.ss, B.high, B.seq⟩ : Bk)).num (nx B.seq)) v1x v2x vex k1x k2x kex)) s⟩
          · have hi' : i < B.ss.length := hi
            refine .seq ((.region (.v (.move rfl) (.v (.move rfl) (.pc (v := .pointer (some ⟨b, 3, none⟩)) rfl rfl (fun w' _ => side_ok w' b 2) (.v (.assign rfl) (.nil ?_)))))))
            refine .seq ((.region (.v (.move rfl) (.v (.move rfl) (.v (.nilCheck rfl) (.v (.load (v := .slice A2 B.ss.length c2) rfl (.one rfl)) (.v (.move rfl) (.v (.move rfl) (.v (.addi (i := (i : Int)) rfl rfl (by omega)) ?_)))))))))
            refine .ef (.callT k2 rfl rfl (fun w' s' => delete_ok w' A2 B.ss.length c2 i (rows B.ss) k2 h2 hi' (by omega) (rows_ones _))) ?_
            rintro v' _ ⟨ks', hS0, rfl⟩
            have hS' : Side v' (B.ss.eraseIdx i) ks' := by
              unfold Side
              rw [List.length_eraseIdx_of_lt hi', ← rows_erase]; exact hS0
            obtain ⟨A', c', rfl⟩ := OwnS.sl hS'
            refine .v (.nilCheck rfl) (.st (.storeL rfl rfl rfl) (.nil ?_))
            refine .keep ([(bt, Ch.cells o.cells 53)] ++ ((b3, Ch.cells c.cells 25) :: TBh t b ⟨B.cap, B.meet, B.bs, B.ss.eraseIdx i, B.high, B.seq⟩ (.slice A1 B.bs.length c1) (.slice A' (B.ss.eraseIdx i).length c') (.slice none 0 0) k1 ks' [])) ?_
            refine (.drawK [(bt, Ch.cells o.cells 53), (b3, Ch.cells c.cells 25)] (by intro p hp; simp at hp ⊢; rcases hp with rfl | rfl <;> simp) (by kernel_rfl) (by kernel_rfl) ?_)
            refine .v (fun _ f => .move rfl) (.v (fun _ f => .fieldAddr rfl) (.v (fun _ f => .load (v := .int .u64 c.tg) rfl (.one (hb := .sub f) rfl)) (.v (fun _ f => .move rfl) (.v (fun _ f => .nilCheck rfl) (.v (fun _ f => .fieldAddr rfl) (.v (fun _ f => .load (v := .int .u64 o.v) rfl (.one (hb := .sub f) rfl)) (.v (fun _ f => .move rfl) (.v (fun _ f => .nilCheck rfl) (.v (fun _ f => .fieldAddr rfl) (.v (fun _ f => .load (v := .int .u64 o.hd) rfl (.one (hb := .sub f) rfl)) (.v (fun _ f => .addU (o.v + o.hd) rfl rfl rfl (by omega)) (.v (fun _ f => .move rfl) (.v (fun _ _ => .build (out := (evCancel c.tg (o.v + o.hd) rs).cells) rfl rfl) ?_)))))))))))))
            refine .ef (.callT (TBh t b ⟨B.cap, B.meet, B.bs, B.ss.eraseIdx i, B.high, B.seq⟩ (.slice A1 B.bs.length c1) (.slice A' (B.ss.eraseIdx i).length c') (.slice none 0 0) k1 ks' []) rfl rfl (fun w' s' => tellB_ok w' t b ⟨B.cap, B.meet, B.bs, B.ss.eraseIdx i, B.high, B.seq⟩ [] (evCancel c.tg (o.v + o.hd) rs) _ _ _ k1 ks' [] h1 hS' (OwnS.nil _ _) (by simp))) (fun _ _ ⟨_, _, e⟩ _ => by subst e; intro p hp; simp at hp ⊢; rcases hp with rfl | rfl <;> simp) ?_
            rintro _ _ ⟨_, ⟨v1x, v2x, vex, k1x, k2x, kex, rfl, h1x, h2x, hEx⟩, rfl⟩
            exact .nil ⟨⟨v1x, v2x, vex, k1x, k2x, kex⟩, ⟨h1x, h2x, hEx⟩, .cons rfl (.cons rfl (.cons rfl (.cons rfl (.cons rfl (.nil _))))), fun _ s => Sat.take (pre := [(bt, Ch.cells o.cells 53)] ++ ((b3, Ch.cells c.cells 25) :: TBh t b (((⟨B.cap, B.meet, B.bs, B.ss.eraseIdx i, B.high, B.seq⟩ : Bk)).num (nx B.seq)) v1x v2x vex k1x k2x kex)) s⟩
      · have g5' : c.k = 1 := Decidable.of_not_not g5
        have egoes : B.goes c = B := by unfold Bk.goes; rw [if_neg g5]
        have egone : B.gone c = [] := by unfold Bk.gone; rw [if_neg g5]
        rw [egoes, egone]
        exact ⟨⟨_, _, _, _, _, _⟩, ⟨h1, h2, OwnS.nil _ _⟩, .cons rfl (.cons rfl (.cons rfl (.cons rfl (.cons rfl (.nil _))))), fun _ s => s⟩
    rintro ⟨v1', v2', ve', k1', k2', ke'⟩ ⟨m1, m2, mE⟩
    dsimp only at m1 m2 mE ⊢
    refine .mid (X := MS) (fun _ => [(5, .pointer (some ⟨t, 0, none⟩))]) (fun m => m.H t b (B.does c).1) (fun m => m.I (B.does c).1 (B.does c).2)
      (.seq ((.region (.v (.fieldAddr rfl) (.v (.load (v := .int .i64 c.k) rfl (.one rfl)) (.v (.nei rfl rfl) (.nil ?_))))))) ?_
    · refine .cond_dec rfl (fun g7 => ?_) (fun g7 => .skip ?_)
      · have eD : B.does c = Bk.comes (((B.goes c).num (nx (B.goes c).seq)).top (cmg c (B.tgt c) (B.at_ c).1).o.id) (B.gone c ++ [(evAck (cmg c (B.tgt c) (B.at_ c).1)).num (nx (B.goes c).seq)]) (cmg c (B.tgt c) (B.at_ c).1) := by
          unfold Bk.does; rw [if_neg g2, if_pos g7]
        have hcs := cmg_side (c := c) (tg := B.tgt c) (side := (B.at_ c).1) h3b g7 (fun e => h3f (by omega)) hside
        obtain ⟨f1, f2, f3, f4⟩ := cmg_facts (c := c) (tg := B.tgt c) (side := (B.at_ c).1)
        have hgm := fun o => Bk.goes_mem (B := B) (c := c) (o := o)
        have hgl := B.goes_len c
        have hgn := gone_len B c
        rw [eD]
        refine .seq ((.region (.v (.loadA (vs := c.cells) rfl .whole rfl) (.v (.move rfl) (.v (.move rfl) (.pc rfl rfl (fun w' s => coming_ok w' c tp (B.tgt c) (B.at_ c).1 (hT.rd s (fun p hp => by simp [hp])) (fun e => h3f (by omega))) ?_))))))
        generalize cmg c (B.tgt c) (B.at_ c).1 = tk at hcs f1 f2 f3 f4 ⊢
        generalize B.goes c = B1 at m1 m2 hgm hgl ⊢
        generalize B.gone c = ev1 at mE hgn ⊢
        refine .nw .alloc fun b15 => (.st (.sw rfl rfl) (.nil ?_))
        refine .seq ((.region (.v (.move rfl) (.v (.fieldAddr rfl) (.v (.fieldAddr rfl) (.v (.load (v := .int .u64 tk.o.id) rfl (.one rfl)) (.v (.fieldAddr rfl) (.v (.fieldAddr rfl) (.v (.load (v := .int .u32 tk.o.mb) rfl (.one rfl)) (.v (.fieldAddr rfl) (.v (.load (v := .int .i64 tk.side) rfl (.one rfl)) (.v (.fieldAddr rfl) (.v (.load (v := .int .i64 tk.kind) rfl (.one rfl)) (.v (.fieldAddr rfl) (.v (.fieldAddr rfl) (.v (.load (v := .int .i64 tk.o.pr) rfl (.one rfl)) (.v (.fieldAddr rfl) (.v (.load (v := .int .u64 tk.left) rfl (.one rfl)) (.v (.fieldAddr rfl) (.v (.fieldAddr rfl) (.v (.load (v := .int .u64 tk.o.pk) rfl (.one rfl)) (.v (.build (out := (evAck tk).cells) rfl rfl) ?_))))))))))))))))))))))
        refine .ef (.callT (TBh t b B1 v1' v2' ve' k1' k2' ke') rfl rfl (fun w' s' => tellB_ok w' t b B1 ev1 (evAck tk) _ _ _ k1' k2' ke' m1 m2 mE (by omega))) ?_
        rintro _ _ ⟨_, ⟨v1x, v2x, vex, k1x, k2x, kex, rfl, h1x, h2x, hEx⟩, rfl⟩
        refine .nil ?_
        refine .keep ((b15, Ch.cells tk.cells 89) :: TBh t b (B1.num (nx B1.seq)) v1x v2x vex k1x k2x kex) ?_
        refine .seq ((.region (.v (.move rfl) (.v (.fieldAddr rfl) (.v (.fieldAddr rfl) (.v (.load (v := .int .u64 tk.o.id) rfl (.one rfl)) (.v (.nilCheck rfl) (.v (.fieldAddr rfl) (.v (.fieldAddr rfl) (.st (.storeL rfl rfl rfl) (.nil ?_)))))))))))
        refine .heap (hs' := (b15, Ch.cells tk.cells 89) :: TBh t b ((B1.num (nx B1.seq)).top tk.o.id) v1x v2x vex k1x k2x kex) (fun _ s => s) ?_
        refine .region (.v (.move rfl) (.v (.loadA (vs := tk.cells) rfl .whole rfl) ?_))
        have hU := hq
        unfold U at hU
        refine .ef (.callT (TBh t b ((B1.num (nx B1.seq)).top tk.o.id) v1x v2x vex k1x k2x kex) rfl rfl (fun w' s' => comes_ok w' t b ((B1.num (nx B1.seq)).top tk.o.id) (ev1 ++ [(evAck tk).num (nx B1.seq)]) tk hcs _ _ _ k1x k2x kex h1x h2x hEx ⟨fun o ho => hOk.good o (hgm o (Bk.side_sub B1 _ o ho)), by show 0 ≤ tk.left; omega, by show tk.left ≤ _; omega⟩ (by rw [f2]; exact hpk)
          (by show B1.bs.length ≤ _; omega) (by show B1.ss.length ≤ _; omega) (by simp; omega))) ?_
        rintro _ _ ⟨_, ⟨v1y, v2y, vey, k1y, k2y, key, rfl, h1y, h2y, hEy⟩, rfl⟩
        exact .nil ⟨⟨v1y, v2y, vey, k1y, k2y, key⟩, ⟨h1y, h2y, hEy⟩, .cons rfl (.nil _), fun _ s => s.take⟩
      · have eD : B.does c = (B.goes c, B.gone c) := by unfold Bk.does; rw [if_neg g2, if_neg g7]
        rw [eD]
        exact ⟨⟨v1', v2', ve', k1', k2', ke'⟩, ⟨m1, m2, mE⟩, .cons rfl (.nil _), fun _ s => Sat.take (pre := TBh t b (B.goes c) v1' v2' ve' k1' k2' ke') s⟩
    · rintro ⟨v1y, v2y, vey, k1y, k2y, key⟩ ⟨n1, n2, nE⟩
      dsimp only at n1 n2 nE ⊢
      refine .seq ((.region (.v (.move rfl) (.v (.nilCheck rfl) (.v (.fieldAddr rfl) (.v (.load (v := vey) rfl (.one rfl)) (.v (.assign rfl) (.nil ?_))))))))
      exact .ret ⟨[_], ⟨rfl, trivial⟩, _, fun _ s => Sat.take (pre := (Tb b (Bc (B.does c).1 v1y v2y) :: (k1y ++ k2y)) ++ key) s, _, key, rfl, ⟨v1y, v2y, k1y, k2y, rfl, n1, n2⟩, nE⟩
end Go.Proofs.Ytmfobfamdaajmaa

/- The law's own parts: fit, lives, begun. -/
namespace Go.Proofs.Ytmfobfamdaajmaa
open Go.V
set_option linter.unusedVariables false
set_option linter.unusedSimpArgs false

theorem Does.call_Do (w : World) (b : Nat) (B : Bk) (hOk : B.Ok) (c : Cm) (hq : U c.q) (hpk : U c.pk) (v1 v2 : Value) (k1 k2 : Hp) (h1 : Side v1 B.bs k1) (h2 : Side v2 B.ss k2) :
    Does Try.prog 22 [.pointer (some ⟨b, 0, none⟩), .agg ⟨c.cells⟩] (Tb b (Bc B v1 v2) :: (k1 ++ k2)) w
      (fun v hs => ∃ A c' v1' v2' k1' k2' ke, v = .slice A (B.does c).2.length c' ∧ hs = (Tb b (Bc (B.does c).1 v1' v2') :: (k1' ++ k2')) ++ ke ∧ Side v1' (B.does c).1.bs k1' ∧ Side v2' (B.does c).1.ss k2' ∧ Evs (.slice A (B.does c).2.length c') (B.does c).2 ke) := by
  refine (do_ok w b B hOk c hq hpk v1 v2 k1 k2 h1 h2).mono ?_
  rintro v _ ⟨_, ke, rfl, ⟨v1', v2', k1', k2', rfl, h1', h2'⟩, hE⟩
  obtain ⟨A, c', rfl⟩ := OwnS.sl hE
  exact ⟨A, c', v1', v2', k1', k2', ke, rfl, rfl, h1', h2', hE⟩
theorem fit_ok (w : World) (c m : Int) : Is Try.prog 40 [.agg ⟨[.int .i64 c, .int .i64 m]⟩] w (.bool (decide (Cfg c m))) := by
  refine Does.pure (Does.of (n := 21) Try.func40 rfl rfl rfl rfl ?_)
  refine .seq ((.region (.nw (.box rfl rfl) fun b1 => (.v (.assign rfl) (.nil ?_)))))
  refine .seq ((.region (.v (.fieldAddr rfl) (.v (.load (v := .int .i64 c) rfl (.one rfl)) (.v (.geq rfl rfl) (.v (.move rfl) (.and 6 9 3 3 rfl rfl (fun g1 => .v (.fieldAddr rfl) (.v (.load (v := .int .i64 c) rfl (.one rfl)) (.v (.leq rfl rfl) (.nil ⟨rfl, rfl, rfl, rfl⟩)))) (.v (.move rfl) (.and 11 14 3 3 rfl rfl (fun g2 => .v (.fieldAddr rfl) (.v (.load (v := .int .i64 m) rfl (.one rfl)) (.v (.geq rfl rfl) (.nil ⟨rfl, rfl, rfl, rfl⟩)))) (.v (.move rfl) (.and 16 19 3 3 rfl rfl (fun g3 => .v (.fieldAddr rfl) (.v (.load (v := .int .i64 m) rfl (.one rfl)) (.v (.leq rfl rfl) (.nil ⟨rfl, rfl, rfl, rfl⟩)))) (.v (.assign rfl) (.nil ?_)))))))))))))
  refine .ret ⟨[_], ⟨rfl, trivial⟩, vb ?_⟩
  simp only [Bool.and_eq_true, Bool.or_eq_true, Bool.not_eq_true', Bool.and_eq_false_iff, Bool.or_eq_false_iff, Bool.not_eq_false', decide_eq_true_eq, decide_eq_false_iff_not, Bool.false_eq_true, false_iff]; unfold Cfg; omega
/-- a field of an event, loaded -/
theorem Evs.ld {w0 : World} {own : List Nat} {b o n c i j : Nat} {l : List Ev} {h hs : Hp} {v : Value} (k : Evs (.slice (some ⟨b, o, none⟩) n c) l h) (hh : h ⊆ hs) (hi : i < l.length) (hj : j < 13) (hv : (l[i].cells)[j]? = some v) : At w0 own hs ⟨b, o + i * 13 + j, none⟩ [v] := by
  rw [Nat.add_assoc]
  exact OwnS.at1 k hh (by rw [erows_get l i j hi hj]; exact hv)
def lb0 : Bk := ⟨4, 0, [], [], 0, 0⟩
def lb1 : Bk := ⟨4, 0, [], [⟨1, 0, 1, 10, 5, 0, 0⟩], 1, 1⟩
def lb2 : Bk := ⟨4, 0, [], [], 2, 4⟩
def lc1 : Cm := ⟨1, 1, 0, 0, 2, 1, 10, 5, 0⟩
def lc2 : Cm := ⟨1, 2, 0, 0, 1, 3, 11, 7, 0⟩
def le1 : List Ev := [⟨1, 1, 1, 0, 0, 0, 2, 1, 10, 5, 0, 0, 0⟩]
def le2 : List Ev := [⟨2, 1, 2, 0, 0, 0, 1, 3, 11, 7, 0, 0, 0⟩, ⟨3, 3, 2, 1, 0, 0, 1, 0, 10, 5, 0, 0, 0⟩, ⟨4, 4, 2, 0, 0, 0, 0, 0, 0, 2, 0, 3, 0⟩]
theorem lives1 : lb0.does lc1 = (lb1, le1) := by kernel_rfl
theorem lives2 : lb1.does lc2 = (lb2, le2) := by kernel_rfl
set_option maxRecDepth 10000 in
theorem lives_ok (w : World) : Is Try.prog 39 [] w (.bool true) := by
  have ok0 : lb0.Ok := ⟨by simp [lb0], by decide⟩
  have ok1 : lb1.Ok := ⟨by simp [lb1, Ord.G], by decide⟩
  refine Does.pure (Does.of (n := 61) Try.func39 rfl rfl rfl rfl ?_)
  refine .seq ((.region (.v (.assign rfl) (.nil ?_))))
  refine .seq ((.region (.v (.build (out := [.int .i64 4, .int .i64 0]) rfl rfl) ?_)))
  refine .ef (.call0 rfl rfl fun w s => New_ok w 4 0) ?_
  rintro _ _ ⟨_, hN, rfl⟩
  rw [if_pos (by decide)] at hN
  obtain ⟨b, rfl, rfl⟩ := hN
  refine .v (.move rfl) (.v (.extract rfl rfl) (.v (.extract rfl rfl) (.v (.assign rfl) (.v (.assign rfl) (.nil ?_)))))
  refine .seq (.seq ((.region (.v (.move rfl) (.v (.eql_ptr_nil rfl rfl) (.v (.move rfl) (.or 12 14 2 2 rfl rfl (fun g1 => .v (.move rfl) (.v (.nei rfl rfl) (.nil ⟨rfl, rfl, rfl, rfl⟩))) (.nil ?_))))))))
  refine .cond rfl (fun h => absurd h (by simp)) (fun _ => .skip ?_)
  refine .heap (hs' := Tb b (Bc lb0 (.slice none 0 0) (.slice none 0 0)) :: ([] ++ [])) (fun _ s => by simpa [lb0, bnew, bcells] using s) ?_
  refine .seq ((.region (.v (.move rfl) (.v (.build (out := lc1.cells) rfl rfl) ?_))))
  refine .ef (.callT (Tb b (Bc lb0 (.slice none 0 0) (.slice none 0 0)) :: ([] ++ [])) rfl rfl (fun w s => Does.call_Do w b lb0 ok0 lc1 (by unfold U; decide) (by unfold U; decide) _ _ [] [] (OwnS.nil _ _) (OwnS.nil _ _))) ?_
  rw [lives1]
  rintro _ _ ⟨_, ⟨A1, c1, v1, v2, k1, k2, ke, rfl, rfl, h1, h2, hE1⟩, rfl⟩
  refine .v (.assign rfl) (.nil ?_)
  refine .seq ((.region (.v (.move rfl) (.v (.build (out := lc2.cells) rfl rfl) ?_))))
  refine .ef (.callT (Tb b (Bc lb1 v1 v2) :: (k1 ++ k2)) rfl rfl (fun w s => Does.call_Do w b lb1 ok1 lc2 (by unfold U; decide) (by unfold U; decide) _ _ k1 k2 h1 h2)) ?_
  rw [lives2]
  rintro _ _ ⟨_, ⟨A2, c2, v1', v2', k1', k2', ke2, rfl, rfl, h1', h2', hE2⟩, rfl⟩
  refine .v (.assign rfl) (.nil ?_)
  obtain ⟨b2, o2, l2, rfl, -, rfl, -, -, -⟩ := hE2.some_ (by decide)
  have hat : ∀ (i j : Nat) (v : Value) (own : List Nat) (hs : Hp), [(b2, Ch.cells l2 50)] ⊆ hs → (hi : i < le2.length) → j < 13 → (le2[i].cells)[j]? = some v → At w own hs ⟨b2, o2 + i * 13 + j, none⟩ [v] := fun i j v own hs hh hi hj hv => hE2.ld hh hi hj hv
  refine .seq (.seq ((.region (.v (.move rfl) (.v (.len rfl) (.v (.nei rfl rfl) (.v (.move rfl) (.or 25 28 3 3 rfl rfl (fun g2 => .v (.move rfl) (.v (.len rfl) (.v (.nei rfl rfl) (.nil ⟨rfl, rfl, rfl, rfl⟩)))) ?_))))))))
  refine .v (.move rfl) (.or 30 35 5 5 rfl rfl (fun g3 => .v (.move rfl) (.v (.indexAddr rfl rfl (by decide) (by decide)) (.v (.fieldAddr rfl) (.v (.load (v := .int .i64 3) rfl (hat 1 1 _ _ _ (fun p hp => by simp at hp ⊢; simp [hp]) (by decide) (by decide) rfl)) (.v (.nei rfl rfl) (.nil ⟨rfl, rfl, rfl, rfl⟩)))))) ?_)
  refine .v (.move rfl) (.or 37 42 5 5 rfl rfl (fun g4 => .v (.move rfl) (.v (.indexAddr rfl rfl (by decide) (by decide)) (.v (.fieldAddr rfl) (.v (.load (v := .int .u64 5) rfl (hat 1 9 _ _ _ (fun p hp => by simp at hp ⊢; simp [hp]) (by decide) (by decide) rfl)) (.v (.nei rfl rfl) (.nil ⟨rfl, rfl, rfl, rfl⟩)))))) ?_)
  refine .v (.move rfl) (.or 44 49 5 5 rfl rfl (fun g5 => .v (.move rfl) (.v (.indexAddr rfl rfl (by decide) (by decide)) (.v (.fieldAddr rfl) (.v (.load (v := .int .i64 4) rfl (hat 2 1 _ _ _ (fun p hp => by simp at hp ⊢; simp [hp]) (by decide) (by decide) rfl)) (.v (.nei rfl rfl) (.nil ⟨rfl, rfl, rfl, rfl⟩)))))) ?_)
  refine .v (.move rfl) (.or 51 56 5 5 rfl rfl (fun g6 => .v (.move rfl) (.v (.indexAddr rfl rfl (by decide) (by decide)) (.v (.fieldAddr rfl) (.v (.load (v := .int .u64 2) rfl (hat 2 9 _ _ _ (fun p hp => by simp at hp ⊢; simp [hp]) (by decide) (by decide) rfl)) (.v (.nei rfl rfl) (.nil ⟨rfl, rfl, rfl, rfl⟩)))))) ?_)
  refine .nil ?_
  refine .cond rfl (fun h => absurd h (by decide)) (fun _ => .skip ?_)
  refine .seq ((.region (.v (.move rfl) ?_)))
  obtain ⟨B1, d1, rfl⟩ := OwnS.sl h1'
  obtain ⟨B2, d2, rfl⟩ := OwnS.sl h2'
  refine .pc rfl rfl (fun w s => Len_is w b 4 0 2 4 B1 B2 0 0 d1 d2 (Rd.chunk s (T := 67) (l := Bc lb2 (.slice B1 0 d1) (.slice B2 0 d2)) (by simp) (fun j v hv => by rw [Nat.zero_add]; exact hv)) (by decide) (by decide)) (.v (.eqi rfl rfl) (.v (.assign rfl) (.nil ?_)))
  exact .ret ⟨[_], ⟨rfl, trivial⟩, rfl⟩
/-- a new book -/
def newB (c m : Int) : Bk := ⟨c, m, [], [], 0, 0⟩
set_option maxRecDepth 10000 in
theorem begun_ok (w : World) (c m : Int) : Does Try.prog 21 [.agg ⟨[.int .i64 c, .int .i64 m]⟩] [] w (fun v hs => if Cfg c m then ∃ b, v = .tuple ⟨[.pointer (some ⟨b, 0, none⟩), .bool true]⟩ ∧ hs = Tb b (Bc (newB c m) (.slice none 0 0) (.slice none 0 0)) :: ([] ++ []) else v = .tuple ⟨[.pointer none, .bool true]⟩ ∧ hs = []) := by
  refine Does.less (Does.of (n := 25) Try.func21 rfl rfl rfl rfl ?_)
  refine .seq ((.region (.nw (.box rfl rfl) fun b1 => (.v (.assign rfl) (.v (.assign rfl) (.nil ?_))))))
  refine .seq (.seq ((.region (.pc rfl rfl (fun w s => lives_ok w) (.v (.not rfl) (.nil ?_))))))
  refine .cond rfl (fun h => absurd h (by decide)) (fun _ => .skip ?_)
  refine .seq ((.region (.v (.loadA (vs := [.int .i64 c, .int .i64 m]) rfl .whole rfl) ?_)))
  refine .ef (.call0 rfl rfl fun w s => New_ok w c m) ?_
  rintro _ _ ⟨_, hN, rfl⟩
  by_cases hc : Cfg c m
  · rw [if_pos hc] at hN
    obtain ⟨b, rfl, rfl⟩ := hN
    refine .v (.move rfl) (.v (.extract rfl rfl) (.v (.extract rfl rfl) (.v (.assign rfl) (.v (.assign rfl) (.nil ?_)))))
    refine .seq ((.region (.v (.move rfl) (.v (.move rfl) (.v (.neq_ptr_nil rfl rfl) (.v (.loadA (vs := [.int .i64 c, .int .i64 m]) rfl .whole rfl) (.pc rfl rfl (fun w s => fit_ok w c m) (.v (.eqb rfl rfl) (.v (.move rfl) (.and 18 23 5 5 rfl rfl (fun g1 => .v (.move rfl) (.v (.eqi rfl rfl) (.v (.loadA (vs := [.int .i64 c, .int .i64 m]) rfl .whole rfl) (.pc rfl rfl (fun w s => fit_ok w c m) (.v (.eqb rfl rfl) (.nil ⟨rfl, rfl, rfl, rfl⟩)))))) (.v (.assign rfl) (.v (.assign rfl) (.nil ?_)))))))))))))
    refine .ret ⟨[_, _], ⟨rfl, rfl, trivial⟩, Tb b (Bc (newB c m) (.slice none 0 0) (.slice none 0 0)) :: ([] ++ []), fun _ s => s.sub (.cons_cons _ (List.nil_sublist _)), ?_⟩
    rw [if_pos hc]
    exact ⟨b, by simp [tup, hc], rfl⟩
  · rw [if_neg hc] at hN
    obtain ⟨rfl, rfl⟩ := hN
    refine .v (.move rfl) (.v (.extract rfl rfl) (.v (.extract rfl rfl) (.v (.assign rfl) (.v (.assign rfl) (.nil ?_)))))
    refine .seq ((.region (.v (.move rfl) (.v (.move rfl) (.v (.neq_ptr_nil rfl rfl) (.v (.loadA (vs := [.int .i64 c, .int .i64 m]) rfl .whole rfl) (.pc rfl rfl (fun w s => fit_ok w c m) (.v (.eqb rfl rfl) (.v (.move rfl) (.and 18 23 5 5 rfl rfl (fun g1 => .v (.move rfl) (.v (.eqi rfl rfl) (.v (.loadA (vs := [.int .i64 c, .int .i64 m]) rfl .whole rfl) (.pc rfl rfl (fun w s => fit_ok w c m) (.v (.eqb rfl rfl) (.nil ⟨rfl, rfl, rfl, rfl⟩)))))) (.v (.assign rfl) (.v (.assign rfl) (.nil ?_)))))))))))))
    refine .ret ⟨[_, _], ⟨rfl, rfl, trivial⟩, [], fun _ s => s.sub (List.nil_sublist _), ?_⟩
    rw [if_neg hc]
    exact ⟨by simp [tup, hc], rfl⟩
end Go.Proofs.Ytmfobfamdaajmaa

/- Plain: what a book keeps, whatever it is told; the numbers of its events. -/
namespace Go.Proofs.Ytmfobfamdaajmaa
open Go.V
set_option linter.unusedVariables false
set_option linter.unusedSimpArgs false

structure Bk.Inv (B : Bk) : Prop where
  lo : 1 ≤ B.cap
  hi : B.cap ≤ 4096
  len : (B.bs.length : Int) + B.ss.length ≤ B.cap
  good : ∀ o ∈ B.bs ++ B.ss, o.G
theorem Bk.Inv.ok {B : Bk} (h : B.Inv) : B.Ok := ⟨h.good, by have := h.len; have := h.hi; omega⟩
theorem newB_inv {c m : Int} (h : Cfg c m) : (newB c m).Inv := ⟨h.1, h.2.1, by simp [newB]; unfold Cfg at h; omega, by simp [newB]⟩
/-- a command's numbers are in their kinds -/
def Cm.wf (c : Cm) : Prop := U c.id ∧ U c.q ∧ U c.pk
theorem chk_sized {c : Cm} (h : c.chk = 0) (hk : c.k ≠ 2) (hw : c.wf) : 1 ≤ c.q ∧ c.q ≤ 4294967295 ∧ c.pk ≤ c.q ∧ (c.pk = 0 ∨ c.q ≤ 256 * c.pk) ∧ 0 ≤ c.pr ∧ c.pr < 262144 ∧ c.id ≠ 0 ∧ (c.k = 1 → 1 ≤ c.ty ∧ c.ty ≤ 5 ∧ (c.pk ≠ 0 → c.ty = 1 ∨ c.ty = 5) ∧ (c.ty = 2 → c.pr = 0)) := by
  obtain ⟨w1, w2, w3⟩ := hw
  unfold U at w1 w2 w3
  have key : ∀ ty : Int, szd c.id c.pr c.q c.pk ty = 0 → 1 ≤ c.q ∧ c.q ≤ 4294967295 ∧ c.pk ≤ c.q ∧ (c.pk = 0 ∨ c.q ≤ 256 * c.pk) ∧ 0 ≤ c.pr ∧ c.pr < 262144 ∧ c.id ≠ 0 ∧ (c.pk ≠ 0 → ty = 1 ∨ ty = 5) ∧ (ty = 2 → c.pr = 0) := by
    intro ty hs
    unfold szd at hs
    by_cases a1 : c.pr < 0 ∨ 262144 ≤ c.pr ∨ ty = 2 ∧ c.pr ≠ 0
    · rw [if_pos a1] at hs; omega
    rw [if_neg a1] at hs
    by_cases a2 : c.q < 1 ∨ 4294967295 < c.q
    · rw [if_pos a2] at hs; omega
    rw [if_neg a2] at hs
    by_cases a3 : c.q < c.pk ∨ c.pk ≠ 0 ∧ (¬ (ty = 1 ∨ ty = 5) ∨ IntKind.u64.wrap (256 * c.pk) < c.q)
    · rw [if_pos a3] at hs; omega
    rw [if_neg a3] at hs
    by_cases a4 : c.id = 0
    · rw [if_pos a4] at hs; omega
    have hw : IntKind.u64.wrap (256 * c.pk) = 256 * c.pk := wrap_u64_in (by omega)
    rw [hw] at a3
    refine ⟨by omega, by omega, by omega, by omega, by omega, by omega, a4, by omega, by omega⟩
  unfold Cm.chk chk at h
  by_cases h1 : c.k = 1
  · rw [if_pos h1] at h
    by_cases h2 : c.sd ≠ 1 ∧ c.sd ≠ 2
    · rw [if_pos h2] at h; omega
    rw [if_neg h2] at h
    by_cases h3 : c.ty < 1 ∨ 5 < c.ty
    · rw [if_pos h3] at h; omega
    rw [if_neg h3] at h
    obtain ⟨k1, k2, k3, k4, k5, k6, k7, k8, k9⟩ := key _ h
    exact ⟨k1, k2, k3, k4, k5, k6, k7, fun _ => ⟨by omega, by omega, k8, k9⟩⟩
  · rw [if_neg h1] at h
    by_cases h3 : c.k = 3
    · rw [if_pos h3] at h
      obtain ⟨k1, k2, k3, k4, k5, k6, k7, k8, k9⟩ := key _ h
      exact ⟨k1, k2, k3, k4, k5, k6, k7, fun e => absurd e h1⟩
    · rw [if_neg h3, if_neg hk] at h; omega
theorem restOf_G {o : Ord} {left q : Int} (h0 : left ≠ 0) (h1 : 0 ≤ left) (h2 : left ≤ q) (h3 : q ≤ 4294967295) (h4 : o.pk ≤ q) (h5 : 0 ≤ o.pk) (h6 : o.pk = 0 ∨ q ≤ 256 * o.pk) : (restOf o left).G := by
  unfold restOf Ord.G
  simp only
  split <;> omega
theorem Bk.put_len {B : Bk} {s : Int} {l : List Ord} (h : l.length ≤ (B.side s).length) : (B.put s l).bs.length ≤ B.bs.length ∧ (B.put s l).ss.length ≤ B.ss.length := by
  unfold Bk.put Bk.side at *
  split at h <;> rename_i e
  · rw [if_pos e]; exact ⟨h, Nat.le_refl _⟩
  · rw [if_neg e]; exact ⟨Nat.le_refl _, h⟩
theorem Bk.put_len1 {B : Bk} {s : Int} {l : List Ord} (h : l.length = (B.side s).length + 1) : (B.put s l).bs.length + (B.put s l).ss.length = B.bs.length + B.ss.length + 1 := by
  unfold Bk.put Bk.side at *
  split at h <;> rename_i e
  · rw [if_pos e]; simp only; omega
  · rw [if_neg e]; simp only; omega
theorem Bk.put_cap (B : Bk) (s : Int) (l : List Ord) : (B.put s l).cap = B.cap ∧ (B.put s l).meet = B.meet ∧ (B.put s l).high = B.high ∧ (B.put s l).seq = B.seq := by
  unfold Bk.put; split <;> exact ⟨rfl, rfl, rfl, rfl⟩
theorem traded_inv {B : Bk} {t : Tk} {z : TS} (h : B.Inv) (hz : z.Ok) (hl : z.L.length ≤ (B.side (3 - t.side)).length) : (B.traded t z).Inv ∧ (B.traded t z).bs.length + (B.traded t z).ss.length ≤ B.bs.length + B.ss.length := by
  have hp := Bk.put_len hl
  have hc := B.put_cap (3 - t.side) z.L
  have e1 : (B.traded t z).bs = (B.put (3 - t.side) z.L).bs := rfl
  have e2 : (B.traded t z).ss = (B.put (3 - t.side) z.L).ss := rfl
  have e3 : (B.traded t z).cap = (B.put (3 - t.side) z.L).cap := rfl
  refine ⟨⟨by rw [e3, hc.1]; exact h.lo, by rw [e3, hc.1]; exact h.hi, ?_, fun o ho => ?_⟩, by rw [e1, e2]; omega⟩
  · have := h.len
    rw [e1, e2, e3, hc.1]; omega
  · rcases Bk.put_mem (B := B) (s := 3 - t.side) (l := z.L) ho with h1 | h1
    · exact hz.good o h1
    · exact h.good o h1
theorem num_inv {B : Bk} (q : Int) (h : B.Inv) : (B.num q).Inv := ⟨h.lo, h.hi, h.len, h.good⟩
theorem top_inv {B : Bk} (q : Int) (h : B.Inv) : (B.top q).Inv := ⟨h.lo, h.hi, h.len, h.good⟩
theorem ts_ok {B : Bk} {evs : List Ev} {t : Tk} (h : ∀ o ∈ B.bs ++ B.ss, o.G) (h1 : 0 ≤ t.left) (h2 : t.left ≤ 18446744073709551615) : (B.ts evs t).Ok := ⟨fun o ho => h o (B.side_sub _ o ho), h1, h2⟩
theorem comes_inv {B : Bk} {evs : List Ev} {t : Tk} (h : B.Inv) (hq : 0 ≤ t.left ∧ t.left ≤ 4294967295) (hp : 0 ≤ t.o.pk ∧ t.o.pk ≤ t.left) (hp2 : t.o.pk = 0 ∨ t.left ≤ 256 * t.o.pk) (hroom : t.kind = 1 ∨ t.kind = 5 → (B.bs.length : Int) + B.ss.length < B.cap) : (B.comes evs t).1.Inv := by
  have hOk : (B.ts evs t).Ok := ts_ok h.good hq.1 (by omega)
  obtain ⟨zok, zlen, _, zl⟩ := (tr_run (meet := B.meet) (t := t) hOk).ok hOk
  unfold Bk.comes
  split
  · exact num_inv _ h
  · simp only
    generalize tr B.meet t (B.ts evs t) = z at *
    obtain ⟨hT, hTl⟩ := traded_inv (t := t) h zok zlen
    split
    · exact hT
    · rename_i hl0
      split
      · exact num_inv _ hT
      · rename_i hk
        have hcap : (B.traded t z).cap = B.cap := (B.put_cap _ _).1
        generalize B.traded t z = B1 at *
        have hlo := zok.lo
        have hzl : z.left ≤ t.left := zl
        have hG := restOf_G (o := t.o) (left := z.left) (q := t.left) hl0 hlo hzl hq.2 hp.2 hp.1 hp2
        have hlen := Bk.put_len1 (B := B1) (s := t.side) (l := rst t.side (restOf t.o z.left) (B1.side t.side)) (rst_length _ _ _)
        have hc := B1.put_cap t.side (rst t.side (restOf t.o z.left) (B1.side t.side))
        have hr := hroom (by omega)
        show (B1.put t.side (rst t.side (restOf t.o z.left) (B1.side t.side))).Inv
        refine ⟨by rw [hc.1]; exact hT.lo, by rw [hc.1]; exact hT.hi, by rw [hc.1, hcap]; omega, fun o ho => ?_⟩
        rcases Bk.put_mem ho with h1 | h1
        · rcases rst_mem h1 with rfl | h1
          · exact hG
          · exact hT.good o (B1.side_sub _ o h1)
        · exact hT.good o h1
theorem goes_len1 {B : Bk} {c : Cm} (hk : c.k ≠ 1) (ht : B.tgt c ≠ none) : (B.goes c).bs.length + (B.goes c).ss.length + 1 = B.bs.length + B.ss.length := by
  rcases at_spec B c with ⟨_, h, _⟩ | ⟨s, hs, i, hi, e, _, _⟩
  · exact absurd h ht
  unfold Bk.goes
  rw [if_pos hk, e]
  simp only [Bk.num, Int.toNat_natCast]
  rcases hs with rfl | rfl
  · have hi' : i < B.bs.length := hi
    show (B.bs.eraseIdx i).length + B.ss.length + 1 = _
    rw [List.length_eraseIdx_of_lt hi']; omega
  · have hi' : i < B.ss.length := hi
    show B.bs.length + (B.ss.eraseIdx i).length + 1 = _
    rw [List.length_eraseIdx_of_lt hi']; omega
theorem goes_cap (B : Bk) (c : Cm) : (B.goes c).cap = B.cap ∧ (B.goes c).meet = B.meet ∧ (B.goes c).high = B.high := by
  unfold Bk.goes
  split
  · have := B.put_cap (B.at_ c).1 ((B.side (B.at_ c).1).eraseIdx (B.at_ c).2.1.toNat)
    exact ⟨this.1, this.2.1, this.2.2.1⟩
  · exact ⟨rfl, rfl, rfl⟩
theorem goes_inv {B : Bk} {c : Cm} (h : B.Inv) : (B.goes c).Inv := by
  have hc := goes_cap B c
  have hl := B.goes_len c
  have := h.len
  exact ⟨by rw [hc.1]; exact h.lo, by rw [hc.1]; exact h.hi, by rw [hc.1]; omega, fun o ho => h.good o (Bk.goes_mem ho)⟩
theorem does_inv {B : Bk} {c : Cm} (h : B.Inv) (hw : c.wf) : (B.does c).1.Inv := by
  unfold Bk.does
  by_cases h0 : B.why c ≠ 0
  · rw [if_pos h0]; exact num_inv _ h
  rw [if_neg h0]
  have h0' : B.why c = 0 := Decidable.of_not_not h0
  obtain ⟨z1, z2, z3, z4, z5⟩ := rfs_zero h0'
  by_cases h2 : c.k ≠ 2
  · rw [if_pos h2]
    obtain ⟨s1, s2, s3, s4, s5, s6, s7, s8⟩ := chk_sized z2 h2 hw
    obtain ⟨f1, f2, f3, f4⟩ := cmg_facts (c := c) (tg := B.tgt c) (side := (B.at_ c).1)
    have hpk := hw.2.2
    unfold U at hpk
    have hgi := goes_inv (c := c) h
    have hgc := goes_cap B c
    refine comes_inv (top_inv _ (num_inv _ hgi)) (by rw [f1]; omega) (by rw [f1, f2]; omega) (by rw [f1, f2]; exact s4) (fun hk => ?_)
    show ((B.goes c).bs.length : Int) + (B.goes c).ss.length < (B.goes c).cap
    rw [hgc.1]
    by_cases h1 : c.k = 1
    · have := z4 h1 hk
      have hl := B.goes_len c
      omega
    · have := goes_len1 h1 (z1 h1)
      have := h.len
      omega
  · rw [if_neg h2]; exact goes_inv h
/-- the events are numbered on from s, to s' -/
def Num : Int → List Ev → Int → Prop
  | s, [], s' => s' = s
  | s, e :: l, s' => e.seq = nx s ∧ Num (nx s) l s'
theorem Num.app : ∀ {l1 l2 : List Ev} {s s1 s2 : Int}, Num s l1 s1 → Num s1 l2 s2 → Num s (l1 ++ l2) s2
  | [], l2, s, s1, s2, h, k => by have : s1 = s := h; subst this; exact k
  | e :: l1, l2, s, s1, s2, h, k => ⟨h.1, Num.app h.2 k⟩
theorem Num.one (s : Int) (e : Ev) : Num s [e.num (nx s)] (nx s) := ⟨rfl, rfl⟩
/-- of trading: what is told is put behind; it is numbered on; it is of trades, cancels, refreshes -/
theorem step_evs {meet : Int} {t : Tk} {s s' : TS} (h : s.step meet t = some s') : ∃ l, s'.evs = s.evs ++ l ∧ Num s.seq l s'.seq ∧ ∀ e ∈ l, e.kind = 3 ∨ e.kind = 4 ∨ e.kind = 5 := by
  obtain ⟨L, left, seq, evs⟩ := s
  unfold TS.step at h
  simp only at h
  cases L with
  | nil => cases h
  | cons f rest =>
    simp only at h
    split at h
    · simp only [Option.some.injEq] at h
      subst h
      split
      · simp only [TS.meets]
        by_cases m1 : meet = 1
        · rw [if_pos m1, if_neg (show ¬ meet = 2 by omega)]
          exact ⟨_, rfl, Num.one _ _, by simp [evCancel, Ev.num]⟩
        · rw [if_neg m1]
          by_cases m2 : meet = 2
          · rw [if_pos m2]
            exact ⟨_, rfl, Num.one _ _, by simp [evCancel, Ev.num]⟩
          · rw [if_neg m2]
            exact ⟨_, List.append_assoc _ _ _, (Num.one _ _).app (Num.one _ _), by simp [evCancel, Ev.num]⟩
      · simp only [TS.hit]
        split
        · exact ⟨_, rfl, Num.one _ _, by simp [evTrade, Ev.num]⟩
        · split
          · exact ⟨_, List.append_assoc _ _ _, (Num.one _ _).app (Num.one _ _), by simp [evTrade, evRefresh, Ev.num]⟩
          · exact ⟨_, rfl, Num.one _ _, by simp [evTrade, Ev.num]⟩
    · cases h
theorem TRun.evs {meet : Int} {t : Tk} {s z : TS} (h : TRun meet t s z) : ∃ l, z.evs = s.evs ++ l ∧ Num s.seq l z.seq ∧ ∀ e ∈ l, e.kind = 3 ∨ e.kind = 4 ∨ e.kind = 5 := by
  induction h with
  | stop _ => exact ⟨[], by simp, rfl, by simp⟩
  | step hs _ ih =>
    obtain ⟨l1, a1, a2, a3⟩ := step_evs hs
    obtain ⟨l2, b1, b2, b3⟩ := ih
    refine ⟨l1 ++ l2, by rw [b1, a1, List.append_assoc], a2.app b2, fun e he => ?_⟩
    rcases List.mem_append.1 he with he | he
    · exact a3 e he
    · exact b3 e he
theorem comes_evs {B : Bk} {evs : List Ev} {t : Tk} (hOk : (B.ts evs t).Ok) : ∃ l, (B.comes evs t).2 = evs ++ l ∧ Num B.seq l (B.comes evs t).1.seq ∧ (∀ e ∈ l, e.kind = 3 ∨ e.kind = 4 ∨ e.kind = 5) ∧ (B.comes evs t).1.high = B.high := by
  obtain ⟨l, a1, a2, a3⟩ := (tr_run (meet := B.meet) (t := t) hOk).evs
  unfold Bk.comes
  split
  · exact ⟨_, rfl, Num.one _ _, by simp [evCancel, Ev.num], rfl⟩
  · simp only
    generalize tr B.meet t (B.ts evs t) = z at *
    have hh : (B.traded t z).high = B.high := (B.put_cap _ _).2.2.1
    have hsq : (B.traded t z).seq = z.seq := rfl
    split
    · exact ⟨l, a1, a2, a3, hh⟩
    · split
      · refine ⟨l ++ [(evCancel t.o.id z.left 3).num (nx (B.traded t z).seq)], by rw [a1, List.append_assoc]; rfl, a2.app (Num.one _ _), fun e he => ?_, hh⟩
        rcases List.mem_append.1 he with he | he
        · exact a3 e he
        · simp at he; subst he; simp [evCancel, Ev.num]
      · have hc := (B.traded t z).put_cap t.side (rst t.side (restOf t.o z.left) ((B.traded t z).side t.side))
        exact ⟨l, a1, by rw [hc.2.2.2]; exact a2, a3, by rw [hc.2.2.1]; exact hh⟩
/-- the acknowledgements' numbers rise, from h to h' -/
def Hi : Int → List Ev → Int → Prop
  | h, [], h' => h' = h
  | h, e :: l, h' => if e.kind = 1 then h < e.id ∧ Hi e.id l h' else Hi h l h'
theorem Hi.none : ∀ {l : List Ev} {h : Int}, (∀ e ∈ l, e.kind ≠ 1) → Hi h l h
  | [], h, _ => rfl
  | e :: l, h, k => by
    unfold Hi
    rw [if_neg (k e (by simp))]
    exact Hi.none fun e he => k e (by simp [he])
theorem Hi.app : ∀ {l1 l2 : List Ev} {s s1 s2 : Int}, Hi s l1 s1 → Hi s1 l2 s2 → Hi s (l1 ++ l2) s2
  | [], l2, s, s1, s2, h, k => by have : s1 = s := h; subst this; exact k
  | e :: l1, l2, s, s1, s2, h, k => by
    rw [List.cons_append]
    unfold Hi at h ⊢
    split at h
    · rename_i e1; rw [if_pos e1]; exact ⟨h.1, Hi.app h.2 k⟩
    · rename_i e1; rw [if_neg e1]; exact Hi.app h k
theorem does_num {B : Bk} {c : Cm} (h : B.Inv) (hw : c.wf) : Num B.seq (B.does c).2 (B.does c).1.seq ∧ Hi B.high (B.does c).2 (B.does c).1.high := by
  unfold Bk.does
  by_cases h0 : B.why c ≠ 0
  · rw [if_pos h0]; exact ⟨Num.one _ _, Hi.none (by simp [evReject, Ev.num])⟩
  rw [if_neg h0]
  obtain ⟨z1, z2, z3, z4, z5⟩ := rfs_zero (Decidable.of_not_not h0)
  have hgone : Num B.seq (B.gone c) (B.goes c).seq ∧ ∀ e ∈ B.gone c, e.kind ≠ 1 := by
    unfold Bk.gone Bk.goes
    by_cases h1 : c.k ≠ 1
    · rw [if_pos h1, if_pos h1]
      cases ht : B.tgt c with
      | none => exact absurd ht (z1 h1)
      | some o => exact ⟨Num.one _ _, by simp [evCancel, Ev.num]⟩
    · rw [if_neg h1, if_neg h1]; exact ⟨rfl, by simp⟩
  have hgh := (goes_cap B c).2.2
  by_cases h2 : c.k ≠ 2
  · rw [if_pos h2]
    obtain ⟨s1, s2, _⟩ := chk_sized z2 h2 hw
    obtain ⟨f1, f2, f3, f4⟩ := cmg_facts (c := c) (tg := B.tgt c) (side := (B.at_ c).1)
    generalize cmg c (B.tgt c) (B.at_ c).1 = tk at *
    obtain ⟨l, a1, a2, a3, a4⟩ := comes_evs (B := ((B.goes c).num (nx (B.goes c).seq)).top tk.o.id) (evs := B.gone c ++ [(evAck tk).num (nx (B.goes c).seq)]) (t := tk) (ts_ok (fun o ho => h.good o (Bk.goes_mem ho)) (by rw [f1]; omega) (by rw [f1]; omega))
    rw [a1, a4]
    refine ⟨(hgone.1.app (Num.one _ _)).app a2, ?_⟩
    have hh : Hi B.high (B.gone c ++ [(evAck tk).num (nx (B.goes c).seq)]) tk.o.id := (Hi.none hgone.2).app (by
      unfold Hi
      rw [if_pos (by rfl)]
      exact ⟨by show B.high < tk.o.id; rw [f3]; exact z3 h2, rfl⟩)
    exact hh.app (Hi.none fun e he => by rcases a3 e he with h | h | h <;> omega)
  · rw [if_neg h2]
    exact ⟨hgone.1, by rw [hgh]; exact Hi.none hgone.2⟩
theorem comes_len {B : Bk} {evs : List Ev} {t : Tk} (hOk : (B.ts evs t).Ok) (hl : (B.ts evs t).L.length ≤ 4096) : (B.comes evs t).2.length ≤ evs.length + 3000000 := by
  obtain ⟨_, _, h3, _⟩ := (tr_run (meet := B.meet) (t := t) hOk).ok hOk
  have hm := mu_le hOk
  have he : (B.ts evs t).evs.length = evs.length := rfl
  unfold Bk.comes
  split
  · simp
  · simp only
    generalize tr B.meet t (B.ts evs t) = z at *
    split
    · show z.evs.length ≤ _; omega
    · split
      · simp only [List.length_append, List.length_singleton]; omega
      · show z.evs.length ≤ _; omega
theorem does_len {B : Bk} {c : Cm} (h : B.Inv) (hw : c.wf) : (B.does c).2.length ≤ 4000000 := by
  have hlen := h.len
  have hhi := h.hi
  unfold Bk.does
  by_cases h0 : B.why c ≠ 0
  · rw [if_pos h0]; simp
  rw [if_neg h0]
  obtain ⟨z1, z2, z3, z4, z5⟩ := rfs_zero (Decidable.of_not_not h0)
  have hg := gone_len B c
  by_cases h2 : c.k ≠ 2
  · rw [if_pos h2]
    obtain ⟨s1, s2, _⟩ := chk_sized z2 h2 hw
    obtain ⟨f1, f2, f3, f4⟩ := cmg_facts (c := c) (tg := B.tgt c) (side := (B.at_ c).1)
    have hgl := B.goes_len c
    generalize cmg c (B.tgt c) (B.at_ c).1 = tk at *
    have hside : ((((B.goes c).num (nx (B.goes c).seq)).top tk.o.id).side (3 - tk.side)).length ≤ 4096 := by
      unfold Bk.side
      split
      · show (B.goes c).bs.length ≤ _; omega
      · show (B.goes c).ss.length ≤ _; omega
    have := comes_len (B := ((B.goes c).num (nx (B.goes c).seq)).top tk.o.id) (evs := B.gone c ++ [(evAck tk).num (nx (B.goes c).seq)]) (t := tk) (ts_ok (fun o ho => h.good o (Bk.goes_mem ho)) (by rw [f1]; omega) (by rw [f1]; omega)) hside
    simp only [List.length_append, List.length_singleton] at this
    omega
  · rw [if_neg h2]; show (B.gone c).length ≤ _; omega
end Go.Proofs.Ytmfobfamdaajmaa
