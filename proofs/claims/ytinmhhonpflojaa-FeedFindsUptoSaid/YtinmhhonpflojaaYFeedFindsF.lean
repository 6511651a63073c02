/- Texts that the row RFeedFinds stands on: FRunP, VPK, FFollows, VN, VT, VB, KBulk, TRdT, FFinds, FDepthsL, QRead, QReadC, FRdCm. -/
import Derived.Test.YtinmhhonpflojaaYFeedFindsE
import Derived.Test.YtinmhhonpflojaaYFeedFindsA
import Derived.Test.YtinmhhonpflojaaYFeedFindsB
import Derived.SizedLaws
import Derived.Test.YtinmhhonpflojaaRows
import Derived.Test.YtinmhhonpflojaaYFeedFindsC
/- What a publisher over a book tells, plain: the messages' numbers, and what they make of nothing. -/
namespace Go.Proofs.Ytinmhhonpflojaa
open Go.V
set_option linter.unusedVariables false
set_option linter.unusedSimpArgs false

theorem chg_mem (side : Int) : ∀ (was now : List Lv), ∀ x ∈ chg side was now, (∃ a ∈ was, x = gone side a) ∨ ∃ b ∈ now, x = told side b
  | [], [] => by simp [chg]
  | a :: was, [] => by
    intro x hx
    rw [chg] at hx
    rcases List.mem_cons.1 hx with rfl | hx
    · exact .inl ⟨a, List.mem_cons_self, rfl⟩
    · rcases chg_mem side was [] x hx with ⟨y, h1, h2⟩ | ⟨y, h1, h2⟩
      · exact .inl ⟨y, List.mem_cons_of_mem _ h1, h2⟩
      · exact .inr ⟨y, h1, h2⟩
  | [], b :: now => by
    intro x hx
    rw [chg] at hx
    rcases List.mem_cons.1 hx with rfl | hx
    · exact .inr ⟨b, List.mem_cons_self, rfl⟩
    · rcases chg_mem side [] now x hx with ⟨y, h1, h2⟩ | ⟨y, h1, h2⟩
      · exact .inl ⟨y, h1, h2⟩
      · exact .inr ⟨y, List.mem_cons_of_mem _ h1, h2⟩
  | a :: was, b :: now => by
    intro x hx
    rw [chg] at hx
    split at hx
    · rcases List.mem_cons.1 hx with rfl | hx
      · exact .inl ⟨a, List.mem_cons_self, rfl⟩
      · rcases chg_mem side was (b :: now) x hx with ⟨y, h1, h2⟩ | ⟨y, h1, h2⟩
        · exact .inl ⟨y, List.mem_cons_of_mem _ h1, h2⟩
        · exact .inr ⟨y, h1, h2⟩
    · split at hx
      · rcases List.mem_cons.1 hx with rfl | hx
        · exact .inr ⟨b, List.mem_cons_self, rfl⟩
        · rcases chg_mem side (a :: was) now x hx with ⟨y, h1, h2⟩ | ⟨y, h1, h2⟩
          · exact .inl ⟨y, h1, h2⟩
          · exact .inr ⟨y, List.mem_cons_of_mem _ h1, h2⟩
      · rcases List.mem_append.1 hx with hx | hx
        · split at hx
          · rw [List.mem_singleton] at hx; subst hx; exact .inr ⟨b, List.mem_cons_self, rfl⟩
          · cases hx
        · rcases chg_mem side was now x hx with ⟨y, h1, h2⟩ | ⟨y, h1, h2⟩
          · exact .inl ⟨y, List.mem_cons_of_mem _ h1, h2⟩
          · exact .inr ⟨y, List.mem_cons_of_mem _ h1, h2⟩
termination_by was now => was.length + now.length
theorem chg_side {side : Int} {was now : List Lv} {x : Dt} (h : x ∈ chg side was now) : x.d = side := by
  rcases chg_mem side was now x h with ⟨y, -, rfl⟩ | ⟨y, -, rfl⟩ <;> rfl
theorem chg_can {side : Int} (hs : side = 1 ∨ side = 2) {was now : List Lv} (h1 : Fit side was) (h2 : Fit side now) {x : Dt} (h : x ∈ chg side was now) {s : Int} (h0 : 1 ≤ s) : Can s x.k x.d x.p x.q x.c := by
  rcases chg_mem side was now x h with ⟨y, hy, rfl⟩ | ⟨y, hy, rfl⟩
  · have := (fit_iff.1 h1).1 y hy
    exact ⟨h0, hs, this.1, .inl ⟨rfl, .inl ⟨rfl, rfl⟩⟩⟩
  · have := (fit_iff.1 h2).1 y hy
    exact ⟨h0, hs, this.1, .inl ⟨rfl, .inr this.2⟩⟩

/-! ### what messages make of levels -/
abbrev L2 := List Lv × List Lv
def lap (z : L2) (x : Dt) : L2 := if x.k = 2 then z else if x.d = 1 then (dn x z.1, z.2) else (z.1, dn x z.2)
abbrev lfold (l : List Dt) : L2 := l.foldl lap ([], [])
theorem dn_s (x : Dt) (s : Int) : ∀ l : List Lv, dn { x with s := s } l = dn x l
  | [] => rfl
  | v :: l => by simp only [dn, dn_s x s l, Dt.lv]
theorem lap_s (z : L2) (x : Dt) (s : Int) : lap z { x with s := s } = lap z x := by simp only [lap, dn_s]
theorem lap_num : ∀ (l : List Dt) (s : Int) (z : L2), (num s l).foldl lap z = l.foldl lap z
  | [], _, _ => rfl
  | x :: l, s, z => by
    simp only [num, List.foldl_cons]
    rw [lap_s, lap_num l]
theorem lap_two : ∀ (l : List Dt) (z : L2), (∀ x ∈ l, x.k = 2) → l.foldl lap z = z
  | [], _, _ => rfl
  | x :: l, z, h => by
    rw [List.foldl_cons, show lap z x = z from if_pos (h x List.mem_cons_self)]
    exact lap_two l z fun y hy => h y (List.mem_cons_of_mem _ hy)
theorem lap_buy : ∀ (l : List Dt) (a b : List Lv), (∀ x ∈ l, x.k = 1 ∧ x.d = 1) → l.foldl lap (a, b) = (l.foldl (fun l x => dn x l) a, b)
  | [], _, _, _ => rfl
  | x :: l, a, b, h => by
    obtain ⟨h1, h2⟩ := h x List.mem_cons_self
    rw [List.foldl_cons, List.foldl_cons, show lap (a, b) x = (dn x a, b) from by unfold lap; rw [if_neg (by omega), if_pos h2]]
    exact lap_buy l _ b fun y hy => h y (List.mem_cons_of_mem _ hy)
theorem lap_sell : ∀ (l : List Dt) (a b : List Lv), (∀ x ∈ l, x.k = 1 ∧ x.d = 2) → l.foldl lap (a, b) = (a, l.foldl (fun l x => dn x l) b)
  | [], _, _, _ => rfl
  | x :: l, a, b, h => by
    obtain ⟨h1, h2⟩ := h x List.mem_cons_self
    rw [List.foldl_cons, List.foldl_cons, show lap (a, b) x = (a, dn x b) from by unfold lap; rw [if_neg (by omega), if_neg (by omega)]]
    exact lap_sell l a _ fun y hy => h y (List.mem_cons_of_mem _ hy)
theorem chg_all {side : Int} {was now : List Lv} (h1 : Fit side was) (h2 : Fit side now) : (chg side was now).foldl (fun l x => dn x l) was = now := by
  have := chg_makes side was now [] h1.wrs h2.wrs (fun v hv => by have := ((fit_iff.1 h2).1 v hv).2.2; omega) (by simp)
  simpa using this
theorem tell_fold {d : Nat} {B B' : Bk} {evs : List Ev} (h : B.Vl) (h' : B'.Vl) : (tellB d B B' evs).foldl lap (lvs d B.bs, lvs d B.ss) = (lvs d B'.bs, lvs d B'.ss) := by
  unfold tellB
  have f := lvs_fit h d
  have f' := lvs_fit h' d
  rw [List.foldl_append, List.foldl_append, lap_two (trs evs) _ (fun x hx => by
      unfold trs at hx
      obtain ⟨e, -, rfl⟩ := List.mem_map.1 hx
      rfl), lap_buy _ _ _ (fun x hx => ⟨chg_kind _ _ _ x hx, chg_side hx⟩), chg_all f.1 f'.1, lap_sell _ _ _ (fun x hx => ⟨chg_kind _ _ _ x hx, chg_side hx⟩), chg_all f.2 f'.2]
theorem tell_can {d : Nat} {B : Bk} {c : Cm} (h : B.Vl) (hw : c.wf) {x : Dt} (hx : x ∈ tellB d B (B.does c).1 (B.does c).2) {s : Int} (h0 : 1 ≤ s) : Can s x.k x.d x.p x.q x.c := by
  have f := lvs_fit h d
  have f' := lvs_fit (does_vl h hw) d
  unfold tellB at hx
  rcases List.mem_append.1 hx with hx | hx
  · rcases List.mem_append.1 hx with hx | hx
    · unfold trs at hx
      obtain ⟨e, he, rfl⟩ := List.mem_map.1 hx
      rw [List.mem_filter] at he
      have := trd_does h hw e he.1 (of_decide_eq_true he.2)
      exact ⟨h0, this.2⟩
    · exact chg_can (.inl rfl) f.1 f'.1 hx h0
  · exact chg_can (.inr rfl) f.2 f'.2 hx h0

/-! ### how many levels there can be -/
structure Tk2 (z : L2) : Prop where
  w1 : Wrs 1 z.1
  w2 : Wrs 2 z.2
  p1 : ∀ v ∈ z.1, 0 ≤ v.p ∧ v.p < 262144
  p2 : ∀ v ∈ z.2, 0 ≤ v.p ∧ v.p < 262144
theorem len_buy : ∀ (l : List Lv) (v : Lv), Wrs 1 (v :: l) → (∀ u ∈ v :: l, 0 ≤ u.p) → (l.length : Int) ≤ v.p
  | [], v, _, h => by have := h v List.mem_cons_self; simpa using this
  | u :: l, v, hw, h => by
    have h1 := List.pairwise_cons.1 hw
    have := len_buy l u h1.2 fun y hy => h y (List.mem_cons_of_mem _ hy)
    have h2 := h1.1 u List.mem_cons_self
    simp [wse] at h2
    rw [List.length_cons]; omega
theorem len_sell : ∀ (l : List Lv) (v : Lv), Wrs 2 (v :: l) → (∀ u ∈ v :: l, u.p < 262144) → (l.length : Int) + v.p < 262144
  | [], v, _, h => by have := h v List.mem_cons_self; simpa using this
  | u :: l, v, hw, h => by
    have h1 := List.pairwise_cons.1 hw
    have := len_sell l u h1.2 fun y hy => h y (List.mem_cons_of_mem _ hy)
    have h2 := h1.1 u List.mem_cons_self
    simp [wse] at h2
    rw [List.length_cons]; omega
theorem Tk2.len {z : L2} (h : Tk2 z) : z.1.length ≤ 262144 ∧ z.2.length ≤ 262144 := by
  obtain ⟨a, b⟩ := z
  obtain ⟨w1, w2, p1, p2⟩ := h
  dsimp only at w1 w2 p1 p2 ⊢
  constructor
  · cases a with
    | nil => simp
    | cons v l =>
      have := len_buy l v w1 fun u hu => (p1 u hu).1
      have := (p1 v List.mem_cons_self).2
      rw [List.length_cons]; omega
  · cases b with
    | nil => simp
    | cons v l =>
      have := len_sell l v w2 fun u hu => (p2 u hu).2
      have := (p2 v List.mem_cons_self).1
      rw [List.length_cons]; omega
theorem Tk2.lap {z : L2} (h : Tk2 z) {x : Dt} (hx : x.can) : Tk2 (lap z x) := by
  obtain ⟨a, b⟩ := z
  obtain ⟨w1, w2, p1, p2⟩ := h
  dsimp only at w1 w2 p1 p2
  unfold Go.Proofs.Ytinmhhonpflojaa.lap
  split
  · exact ⟨w1, w2, p1, p2⟩
  · split
    · rename_i e
      have := dn_wrs x a (by rw [e]; exact w1)
      rw [e] at this
      refine ⟨this.1, w2, fun v hv => ?_, p2⟩
      rcases this.2 v hv with rfl | hv
      · exact hx.2.2.1
      · exact p1 v hv
    · rename_i e
      have e2 : x.d = 2 := by rcases Can.side hx with e' | e' <;> omega
      have := dn_wrs x b (by rw [e2]; exact w2)
      rw [e2] at this
      refine ⟨w1, this.1, p1, fun v hv => ?_⟩
      rcases this.2 v hv with rfl | hv
      · exact hx.2.2.1
      · exact p2 v hv
theorem Tk2.fold : ∀ {l : List Dt} {z : L2}, Tk2 z → (∀ x ∈ l, x.can) → Tk2 (l.foldl Go.Proofs.Ytinmhhonpflojaa.lap z)
  | [], _, h, _ => h
  | x :: l, z, h, hc => Tk2.fold (l := l) (z := Go.Proofs.Ytinmhhonpflojaa.lap z x) (h.lap (hc x List.mem_cons_self)) fun y hy => hc y (List.mem_cons_of_mem _ hy)
theorem Tk2.zero : Tk2 ([], []) := ⟨(Fit.nil 1).wrs, (Fit.nil 2).wrs, by simp, by simp⟩

/-! ### a run -/
structure RunF (d : Nat) (s : Sh) : Prop where
  q : s.q = s.dt.length
  num : ∀ i, (h : i < s.dt.length) → s.dt[i].s = i + 1
  can : ∀ x ∈ s.dt, x.can
  fold : lfold s.dt = (lvs d s.B.bs, lvs d s.B.ss)
  p : ∀ i, (h : i < s.pcs.length) → ∃ n : Nat, n ≤ s.dt.length ∧ s.pcs[i].seq = n ∧ lfold (s.dt.take n) = (s.pcs[i].bs, s.pcs[i].ss) ∧ Fit 1 s.pcs[i].bs ∧ Fit 2 s.pcs[i].ss
  mono : ∀ i, (h : i + 1 < s.pcs.length) → s.pcs[i].seq ≤ s.pcs[i + 1].seq
  last : ∃ l, s.pcs = l ++ [pcB s.q d s.B]
theorem runF {d : Nat} {cc cm : Int} (hc : Cfg cc cm) {l : List Cm} (hw : ∀ c ∈ l, c.wf) (hb : l.length ≤ 600000) : ∀ n, n ≤ l.length → RunF d (Sh.run d cc cm (l.take n)) ∧ (Sh.run d cc cm (l.take n)).B.Vl ∧ (Sh.run d cc cm (l.take n)).dt.length ≤ n * 4100000
  | 0, _ => by
    refine ⟨⟨rfl, fun i h => absurd h (by simp [Sh.run]), by simp [Sh.run], rfl, fun i h => ?_, fun i h => absurd h (by simp [Sh.run]), [], rfl⟩, newB_vl hc, by simp [Sh.run]⟩
    have : i = 0 := by simpa [Sh.run] using h
    subst this
    exact ⟨0, Nat.le_refl _, rfl, rfl, Fit.nil 1, Fit.nil 2⟩
  | n + 1, h => by
    obtain ⟨ih, hV, hl⟩ := runF hc hw hb n (by omega)
    rw [Sh.run_succ (by omega)]
    generalize Sh.run d cc cm (l.take n) = s at ih hV hl
    have hcw := hw _ (List.getElem_mem (show n < l.length by omega))
    generalize l[n] = c at hcw
    have hV' := does_vl hV hcw
    have htl := tell_len hV hcw d
    have htf := tell_fold (d := d) (evs := (s.B.does c).2) hV hV'
    have htc := fun x hx s0 h0 => tell_can (d := d) (x := x) (s := s0) hV hcw hx h0
    have hft := lvs_fit hV' d
    unfold Sh.step
    generalize tellB d s.B (s.B.does c).1 (s.B.does c).2 = T at htl htf htc
    obtain ⟨q, hn, hcn, hfo, hp, hm, hla⟩ := ih
    have hq9 : (s.q + (T.length : Int)) % 18446744073709551616 = s.q + T.length := by omega
    have hfo' : lfold (s.dt ++ Go.Proofs.Ytinmhhonpflojaa.num s.q T) = (lvs d (s.B.does c).1.bs, lvs d (s.B.does c).1.ss) := by
      unfold lfold at hfo ⊢
      rw [List.foldl_append, hfo, lap_num, htf]
    rw [hq9]
    refine ⟨⟨?_, fun i hi => ?_, fun x hx => ?_, hfo', fun i hi => ?_, fun i hi => ?_, ⟨s.pcs, rfl⟩⟩, hV', ?_⟩
    · show s.q + (T.length : Int) = ((s.dt ++ Go.Proofs.Ytinmhhonpflojaa.num s.q T).length : Nat)
      rw [List.length_append, num_length]; omega
    · dsimp only at hi ⊢
      rw [List.length_append, num_length] at hi
      rw [List.getElem_append]
      split
      · rename_i h1
        exact hn i h1
      · rename_i h1
        rw [num_get T s.q (i - s.dt.length) (by omega)]
        dsimp only
        omega
    · dsimp only at hx
      rcases List.mem_append.1 hx with hx | hx
      · exact hcn x hx
      · obtain ⟨j, hj, rfl⟩ := List.mem_iff_getElem.1 hx
        rw [num_length] at hj
        rw [num_get T s.q j hj]
        exact htc _ (List.getElem_mem hj) _ (by show 1 ≤ (s.q + (j : Int) + 1) % 18446744073709551616; omega)
    · dsimp only at hi ⊢
      rw [List.length_append, List.length_singleton] at hi
      by_cases h1 : i < s.pcs.length
      · rw [List.getElem_append_left h1]
        obtain ⟨k, k1, k2, k3, k4⟩ := hp i h1
        exact ⟨k, by rw [List.length_append]; omega, k2, by rw [List.take_append_of_le_length k1]; exact k3, k4⟩
      · have : i = s.pcs.length := by omega
        subst this
        rw [List.getElem_append_right (by omega)]
        simp only [Nat.sub_self, List.getElem_cons_zero]
        exact ⟨(s.dt ++ Go.Proofs.Ytinmhhonpflojaa.num s.q T).length, Nat.le_refl _, by rw [List.length_append, num_length]; show s.q + (T.length : Int) = _; omega, by rw [List.take_length]; exact hfo', hft⟩
    · dsimp only at hi ⊢
      rw [List.length_append, List.length_singleton] at hi
      rw [List.getElem_append_left (show i < s.pcs.length by omega)]
      by_cases h1 : i + 1 < s.pcs.length
      · rw [List.getElem_append_left h1]
        exact hm i h1
      · have : i + 1 = s.pcs.length := by omega
        rw [List.getElem_append_right (by omega)]
        simp only [this, Nat.sub_self, List.getElem_cons_zero]
        obtain ⟨k, k1, k2, -⟩ := hp i (by omega)
        show _ ≤ s.q + (T.length : Int)
        omega
    · show (s.dt ++ Go.Proofs.Ytinmhhonpflojaa.num s.q T).length ≤ _
      rw [List.length_append, num_length]; omega

/-! ### who takes all in order -/
theorem lap_app {S : Sb} {x : Dt} : ((S.app x).bs, (S.app x).ss) = lap (S.bs, S.ss) x := by
  unfold Sb.app lap
  split
  · rfl
  · split <;> rfl
theorem hat_nil (n : Int) : hat n [] = none := rfl
theorem lfold_succ {dt : List Dt} {n : Nat} (h : n < dt.length) : lfold (dt.take (n + 1)) = lap (lfold (dt.take n)) dt[n] := by
  unfold lfold
  rw [List.take_add_one, List.getElem?_eq_getElem h, List.foldl_append]; rfl
structure Fol (dt : List Dt) (n : Nat) (S : Sb) : Prop where
  seq : S.seq = n
  held : S.held = []
  gr : S.gr ≤ n
  lv : (S.bs, S.ss) = lfold (dt.take n)
  ok : S.Ok
  hold : S.hold ≤ 1024
theorem Fol.new (dt : List Dt) {h : Int} (hh : h ≤ 1024) : Fol dt 0 (Sb.new h) := ⟨rfl, rfl, Int.le_refl 0, rfl, Sb.new_ok _, hh⟩
theorem Fol.good {dt : List Dt} {n : Nat} {S : Sb} (h : Fol dt n S) : S.good = true := by
  unfold Sb.good; rw [h.seq]; exact decide_eq_true h.gr
theorem Fol.size {dt : List Dt} {n : Nat} {S : Sb} (h : Fol dt n S) (hc : ∀ x ∈ dt, x.can) : S.size ≤ 600000 := by
  have := (Tk2.fold (l := dt.take n) Tk2.zero fun x hx => hc x (List.mem_of_mem_take hx)).len
  have hl := h.lv
  unfold lfold at hl
  rw [← hl] at this
  unfold Sb.size
  rw [h.held]
  dsimp only [List.length_nil] at this ⊢
  omega
theorem Fol.take {dt : List Dt} {n : Nat} {S : Sb} (h : Fol dt n S) (hn : n < dt.length) (hs : dt[n].s = n + 1) (hc : dt[n].can) (hb : dt.length < 18446744073709551615) : (S.take dt[n]).2 = 0 ∧ Fol dt (n + 1) (S.take dt[n]).1 := by
  have hl := lfold_succ hn
  generalize dt[n] = x at hs hc hl
  have h1 : ¬ (S.has x.s = true ∨ x.s ≤ S.seq) := by
    unfold Sb.has
    rw [h.held, hat_nil, h.seq, hs]
    simp; omega
  have h2 : x.s = nxs S.seq := by unfold nxs; rw [h.seq, hs]; omega
  have ok := h.ok.take (x := x) (by rw [hs]; omega) h.hold
  rw [Sb.take_ok hc h1 h2] at ok ⊢
  have hg : (({ S with gr := max S.gr x.s } : Sb).app x).go = ({ S with gr := max S.gr x.s } : Sb).app x := Sb.go_none (by rw [Sb.app_held]; show hat _ S.held = _; rw [h.held]; rfl)
  rw [hg] at ok ⊢
  refine ⟨rfl, by rw [Sb.app_seq, hs]; rfl, by rw [Sb.app_held]; exact h.held, ?_, ?_, ok, by rw [Sb.app_hold]; exact h.hold⟩
  · rw [Sb.app_gr]; show max S.gr x.s ≤ _; have := h.gr; omega
  · rw [lap_app, hl, ← h.lv]
theorem Fol.recover {dt : List Dt} {n m : Nat} {S : Sb} (h : Fol dt n S) {bs ss : List Lv} (hm : lfold (dt.take m) = (bs, ss)) (f1 : Fit 1 bs) (f2 : Fit 2 ss) (hnm : n ≤ m) (hb : m < 18446744073709551615) : (S.rec_ m bs ss).2 = 0 ∧ Fol dt m (S.rec_ m bs ss).1 := by
  have ok := h.ok.rec_ (seq := m) (bs := bs) (ss := ss) (by omega)
  rw [Sb.rec_ok ⟨f1, f2⟩ (by rw [h.seq]; omega)] at ok ⊢
  rw [Sb.go_none (by show hat _ (S.held.filter _) = none; rw [h.held]; rfl)] at ok ⊢
  exact ⟨rfl, rfl, by show S.held.filter _ = []; rw [h.held]; rfl, by have := h.gr; show S.gr ≤ _; omega, hm.symm, ok, h.hold⟩

/-! ### whatever is taken -/
structure Fnd (dt : List Dt) (S : Sb) : Prop where
  lv : ∃ n : Nat, n ≤ dt.length ∧ S.seq = n ∧ (S.bs, S.ss) = lfold (dt.take n)
  held : ∀ x ∈ S.held, x ∈ dt
  gr : S.gr ≤ dt.length
  ok : S.Ok
  hold : S.hold ≤ 1024
theorem Fnd.new (dt : List Dt) {h : Int} (hh : h ≤ 1024) : Fnd dt (Sb.new h) := ⟨⟨0, Nat.zero_le _, rfl, rfl⟩, by simp [Sb.new], by show (0 : Int) ≤ _; omega, Sb.new_ok _, hh⟩
theorem Fnd.size {dt : List Dt} {S : Sb} (h : Fnd dt S) (hc : ∀ x ∈ dt, x.can) : S.size ≤ 600000 := by
  obtain ⟨n, -, -, hl⟩ := h.lv
  have := (Tk2.fold (l := dt.take n) Tk2.zero fun x hx => hc x (List.mem_of_mem_take hx)).len
  unfold lfold at hl
  rw [← hl] at this
  dsimp only at this
  have := h.ok.len
  unfold Sb.size
  omega
structure Nmd (dt : List Dt) : Prop where
  num : ∀ i, (h : i < dt.length) → dt[i].s = i + 1
  can : ∀ x ∈ dt, x.can
  len : dt.length < 9223372036854775807
theorem Fnd.app {dt : List Dt} (hd : Nmd dt) {S : Sb} (h : Fnd dt S) {x : Dt} (hx : x ∈ dt) (hs : x.s = nxs S.seq) : Fnd dt (S.app x) := by
  obtain ⟨⟨n, n1, n2, n3⟩, h2, h3, h4, h5⟩ := h
  obtain ⟨j, hj, rfl⟩ := List.mem_iff_getElem.1 hx
  have e := hd.num j hj
  have hl := hd.len
  have : j = n := by unfold nxs at hs; omega
  subst this
  refine ⟨⟨j + 1, by omega, by rw [Sb.app_seq, e]; rfl, ?_⟩, by rw [Sb.app_held]; exact h2, by rw [Sb.app_gr]; exact h3, h4.app (hd.can _ hx) (by omega), by rw [Sb.app_hold]; exact h5⟩
  rw [lap_app, lfold_succ hj, ← n3]
theorem Fnd.go {dt : List Dt} (hd : Nmd dt) {S : Sb} (h : Fnd dt S) : Fnd dt S.go := by
  generalize hn : S.held.length = n
  induction n using Nat.strongRecOn generalizing S with
  | _ n ih =>
    cases hh : hat (nxs S.seq) S.held with
    | none => rw [Sb.go_none hh]; exact h
    | some i =>
      obtain ⟨hi, e⟩ := Sb.go_some hh
      obtain ⟨_, hs, _⟩ := hat_some hh
      rw [e]
      refine ih (n - 1) (by omega) (S := S.one i S.held[i]) ?_ (by rw [Sb.one_held, List.length_eraseIdx_of_lt hi]; omega)
      have hok := h.ok.one hi
      have h1 : Fnd dt ({ S with held := S.held.eraseIdx i } : Sb) := ⟨h.lv, fun x hx => h.held x (List.mem_of_mem_eraseIdx hx), h.gr, ?_, h.hold⟩
      · exact h1.app hd (h.held _ (List.getElem_mem hi)) hs
      · have o := h.ok
        refine ⟨o.sq, o.b, o.s, fun x hx => o.can x (List.mem_of_mem_eraseIdx hx), o.nd.sublist ((List.eraseIdx_sublist S.held i).map _), fun x hx => o.gr x (List.mem_of_mem_eraseIdx hx), ?_⟩
        have := o.len
        have e : (S.held.eraseIdx i).length = S.held.length - 1 := List.length_eraseIdx_of_lt hi
        show (S.held.eraseIdx i).length ≤ 1024 ∧ ((S.held.eraseIdx i).length : Int) ≤ max S.hold 0
        omega
theorem Fnd.take {dt : List Dt} (hd : Nmd dt) {S : Sb} (h : Fnd dt S) {x : Dt} (hx : x ∈ dt) : Fnd dt (S.take x).1 := by
  have hc := hd.can x hx
  have hxs : x.s ≤ dt.length := by
    obtain ⟨j, hj, rfl⟩ := List.mem_iff_getElem.1 hx
    have := hd.num j hj
    omega
  have hl := hd.len
  have ok := h.ok.take (x := x) (by omega) h.hold
  by_cases h1 : S.has x.s = true ∨ x.s ≤ S.seq
  · rw [Sb.take_stale hc h1]; exact h
  · have hg := h.gr
    by_cases h2 : x.s = nxs S.seq
    · rw [Sb.take_ok hc h1 h2]
      refine Fnd.go hd (Fnd.app hd (S := { S with gr := max S.gr x.s }) ⟨h.lv, h.held, by show max S.gr x.s ≤ _; omega, ?_, h.hold⟩ hx h2)
      have o := h.ok
      exact ⟨o.sq, o.b, o.s, o.can, o.nd, fun y hy => by have := o.gr y hy; show y.s ≤ max S.gr x.s; omega, o.len⟩
    · rw [Sb.take_gap hc h1 h2] at ok ⊢
      dsimp only at ok ⊢
      split at ok
      · rename_i h3
        rw [if_pos h3]
        exact ⟨h.lv, fun y hy => by
          rcases List.mem_append.1 hy with hy | hy
          · exact h.held y hy
          · have : y = x := by simpa using hy
            subst this; exact hx, by show max S.gr x.s ≤ _; omega, ok, h.hold⟩
      · rename_i h3
        rw [if_neg h3]
        exact ⟨h.lv, h.held, by show max S.gr x.s ≤ _; omega, ok, h.hold⟩
theorem Fnd.recover {dt : List Dt} (hd : Nmd dt) {S : Sb} (h : Fnd dt S) {m : Nat} {bs ss : List Lv} (hm : lfold (dt.take m) = (bs, ss)) (f1 : Fit 1 bs) (f2 : Fit 2 ss) (hb : m ≤ dt.length) : Fnd dt (S.rec_ m bs ss).1 := by
  by_cases h1 : (m : Int) < S.seq
  · rw [Sb.rec_stale ⟨f1, f2⟩ h1]; exact h
  · rw [Sb.rec_ok ⟨f1, f2⟩ h1]
    have o := h.ok
    have hl := hd.len
    refine Fnd.go hd ⟨⟨m, hb, rfl, hm.symm⟩, fun x hx => h.held x (List.mem_filter.1 hx).1, h.gr, ⟨by show 0 ≤ (m : Int) ∧ (m : Int) < _; omega, f1.wrs, f2.wrs, fun x hx => o.can x (List.mem_filter.1 hx).1, o.nd.sublist (List.filter_sublist.map _), fun x hx => o.gr x (List.mem_filter.1 hx).1, ?_⟩, h.hold⟩
    have := List.length_filter_le (fun x : Dt => decide ((m : Int) < x.s)) S.held
    have := o.len
    show (S.held.filter _).length ≤ 1024 ∧ ((S.held.filter _).length : Int) ≤ max S.hold 0
    omega
/-- behind the last picture all is shown -/
theorem Fnd.last {dt : List Dt} (hd : Nmd dt) {S : Sb} (h : Fnd dt S) {bs ss : List Lv} (hm : lfold dt = (bs, ss)) (f1 : Fit 1 bs) (f2 : Fit 2 ss) :
    (S.rec_ dt.length bs ss).2 = 0 ∧ (S.rec_ dt.length bs ss).1.good = true ∧ (S.rec_ dt.length bs ss).1.seq = dt.length ∧ (S.rec_ dt.length bs ss).1.bs = bs ∧ (S.rec_ dt.length bs ss).1.ss = ss := by
  obtain ⟨n, n1, n2, n3⟩ := h.lv
  rw [Sb.rec_ok ⟨f1, f2⟩ (by rw [n2]; omega)]
  have hf : S.held.filter (fun x => decide ((dt.length : Int) < x.s)) = [] := by
    rw [List.filter_eq_nil_iff]
    intro x hx
    obtain ⟨j, hj, rfl⟩ := List.mem_iff_getElem.1 (h.held x hx)
    have := hd.num j hj
    simp; omega
  rw [Sb.go_none (by show hat _ (S.held.filter _) = none; rw [hf]; rfl)]
  exact ⟨rfl, decide_eq_true h.gr, rfl, rfl, rfl⟩
end Go.Proofs.Ytinmhhonpflojaa

/- VPK: guards that are known: picks with a known condition, runs of operations that are passed over. -/
namespace Go
namespace V
open Go.RowKit
set_option linter.unusedVariables false
set_option linter.unusedSimpArgs false

section
variable {P : Program} {n : Nat} {w0 : World} {own : List Nat} {e : Env} {hs F : Hp} {ops : Array Oper} {l : List Oper} {K : Env → Hp → Prop}
theorem Val.pickT {c x y : Operand} {u v : Value} (hc : ev e c = some (.bool true)) (hx : ev e x = some u) (hy : ev e y = some v) : Val P n w0 own e hs (.pick c x y) u := by
  have := Val.pick (P := P) (n := n) (w0 := w0) (own := own) (hs := hs) hc hx hy
  simpa using this
theorem Val.pickF {c x y : Operand} {u v : Value} (hc : ev e c = some (.bool false)) (hx : ev e x = some u) (hy : ev e y = some v) : Val P n w0 own e hs (.pick c x y) v := by
  have := Val.pick (P := P) (n := n) (w0 := w0) (own := own) (hs := hs) hc hx hy
  simpa using this
theorem Val.convE {T U : Nat} {x : Operand} {q r : IntKind} {i : Int} (j : Int) (hx : ev e x = some (.int q i)) [hT : IntT P T q] [hU : IntT P U r] (hj : r.wrap i = j) : Val P n w0 own e hs (.convert T U x) (.int r j) := hj ▸ Val.conv hx
/-- k operations are passed over -/
theorem JK.skn {e1 : Env} (k : Nat) (h : skB ops n (l.take k) e = some e1) (kk : JK P n w0 own ops F (l.drop k) e hs K) : JK P n w0 own ops F l e hs K := by
  rw [← List.take_append_drop k l]
  exact JK.app (JK.skips h fun e1' hs' => .nil (JK.sub hs' kk))
theorem JL.skn {e1 : Env} (k : Nat) (h : skB ops n (l.take k) e = some e1) (kk : JL P n w0 own ops (l.drop k) e hs K) : JL P n w0 own ops l e hs K := by
  rw [← List.take_append_drop k l]
  exact JL.app (JL.skips h fun e1' hs' => .nil (fun a w hr s => kk a w (hr.sub hs') s))
end
end V
end Go

/- FeedFollows: the law's walk. -/
namespace Go.Proofs.Ytinmhhonpflojaa
open Go.V
set_option linter.unusedVariables false
set_option linter.unusedSimpArgs false

abbrev Swf (s p b : Nat) (vD vP : Value) (hD hP : Hp) (ps : List PicD) : Hp := ShB s p b vD vP :: (hD ++ (hP ++ picH ps))
theorem GoodS {w0 w : World} {own : List Nat} {HS hs : Hp} {b m : Nat} {S : Sb} (s : Sat w0 own HS w) (hS : SubH b m S hs) (hsub : hs ⊆ HS) : Is Try.prog 36 [.pointer (some ⟨b, 0, none⟩)] w (.bool S.good) := by
  obtain ⟨v1, v2, k1, k2, es, c, rfl, h⟩ := hS
  exact Good_ok w b m S v1 v2 (Rd.blk (T := 114) (hb := ⟨hsub (by simp)⟩) s)
theorem PictureS {w0 w : World} {own : List Nat} {HS hs : Hp} {b m : Nat} {S : Sb} (s : Sat w0 own HS w) (hS : SubH b m S hs) (hsub : hs ⊆ HS) (hz : S.size ≤ 2899990) : Does Try.prog 37 [.pointer (some ⟨b, 0, none⟩)] [] w (NewPic ⟨S.seq, S.bs, S.ss⟩) := by
  obtain ⟨v1, v2, k1, k2, es, c, rfl, h⟩ := hS
  have o1 := h.o1
  have o2 := h.o2
  obtain ⟨A1, a1, rfl⟩ := lown_sl o1
  obtain ⟨A2, a2, rfl⟩ := lown_sl o2
  exact SPicture_ok w b m S A1 A2 a1 a2 (Rd.blk (T := 114) (hb := ⟨hsub (by simp)⟩) s) (OwnS.rd o1 s (no := []) (fun y hy => hsub (by simp [hy])) (by simp)) (OwnS.rd o2 s (no := []) (fun y hy => hsub (by simp [hy])) (by simp)) (by omega)
theorem GoodT {w0 w : World} {own : List Nat} {HS hs : Hp} {b m : Nat} {S : Sb} (hg : S.good = true) (s : Sat w0 own HS w) (hS : SubH b m S hs) (hsub : hs ⊆ HS) : Is Try.prog 36 [.pointer (some ⟨b, 0, none⟩)] w (.bool true) := by
  rw [← hg]; exact GoodS s hS hsub
theorem PictureF {w0 w : World} {own : List Nat} {HS hs : Hp} {b m : Nat} {S : Sb} {p : Pc} (e1 : S.seq = p.seq) (e2 : (S.bs, S.ss) = (p.bs, p.ss)) (s : Sat w0 own HS w) (hS : SubH b m S hs) (hsub : hs ⊆ HS) (hz : S.size ≤ 2899990) : Does Try.prog 37 [.pointer (some ⟨b, 0, none⟩)] [] w (NewPic p) := by
  have := PictureS s hS hsub hz
  injection e2 with e2 e3
  rw [e1, e2, e3] at this
  exact this
/-- a picture's facts -/
structure PcF (dt : List Dt) (p : Pc) (m : Nat) : Prop where
  le : m ≤ dt.length
  seq : p.seq = m
  lv : lfold (dt.take m) = (p.bs, p.ss)
  f1 : Fit 1 p.bs
  f2 : Fit 2 p.ss
theorem PcF.len {dt : List Dt} {p : Pc} {m : Nat} (h : PcF dt p m) (hc : ∀ x ∈ dt, x.can) : p.bs.length ≤ 262144 ∧ p.ss.length ≤ 262144 := by
  have := (Tk2.fold (l := dt.take m) Tk2.zero fun x hx => hc x (List.mem_of_mem_take hx)).len
  have hl := h.lv
  unfold lfold at hl
  rw [hl] at this
  exact this
structure FFS where
  i : Nat
  n : Nat
  S1 : Sb
  S2 : Sb
  h1 : Hp
  h2 : Hp
abbrev OnB (dt : List Dt) (L : Int) (i n : Nat) (S2 : Sb) : Prop := (0 ≤ L ∧ L < i → Fol dt n S2) ∧ (¬ (0 ≤ L ∧ L < i) → Fol dt 0 S2)
structure FFS.I (dt : List Dt) (ps : List PicD) (b1 m1 b2 m2 : Nat) (L : Int) (x : FFS) : Prop where
  le : x.i ≤ ps.length
  n : x.n ≤ dt.length
  at_ : ∀ k, k + 1 = x.i → ∀ hk : k < ps.length, (x.n : Int) = ps[k].pc.seq
  z : x.i = 0 → x.n = 0
  f : Fol dt x.n x.S1
  s1 : SubH b1 m1 x.S1 x.h1
  s2 : SubH b2 m2 x.S2 x.h2
  b : OnB dt L x.i x.n x.S2
structure FFS.J (dt : List Dt) (b1 m1 b2 m2 : Nat) (L : Int) (i m : Nat) (x : FFS) : Prop where
  le : x.i = i
  n : x.n ≤ m
  f : Fol dt x.n x.S1
  s1 : SubH b1 m1 x.S1 x.h1
  s2 : SubH b2 m2 x.S2 x.h2
  b : OnB dt L i x.n x.S2
theorem Fol.size' {dt : List Dt} {n : Nat} {S : Sb} (h : Fol dt n S) (hc : ∀ x ∈ dt, x.can) : S.size ≤ 2899990 := by have := h.size hc; omega
theorem OnB.size {dt : List Dt} {L : Int} {i n : Nat} {S : Sb} (h : OnB dt L i n S) (hc : ∀ x ∈ dt, x.can) : S.size ≤ 2899990 := by
  by_cases hh : 0 ≤ L ∧ L < i
  · exact (h.1 hh).size' hc
  · exact (h.2 hh).size' hc
abbrev FFSH (s1 p1 c1 : Nat) (vD vP : Value) (hD hP : Hp) (ps : List PicD) (x : FFS) : Hp := Swf s1 p1 c1 vD vP hD hP ps ++ (x.h1 ++ x.h2)
set_option maxRecDepth 20000 in
set_option maxHeartbeats 4000000 in
theorem FeedFollows_ok (w : World) (d cc cm : Int) (A : Option Addr) (len cap : Nat) (l : List Cm) (from_ : Int) (hl : len = l.length) (hA : Rd w [] A (crows l)) (hb : len ≤ 600000) (hw : ∀ c ∈ l, c.wf) :
    Is Try.prog 9 [.int .i64 d, .agg ⟨[.int .i64 cc, .int .i64 cm]⟩, .slice A len cap, .int .i64 from_] w (.bool true) := by
  refine Does.pure (Does.of (n := 201) Try.func9 rfl rfl rfl rfl ?_)
  refine .seq ((.region (.nw (.box rfl rfl) fun b5 => (.v (.assign rfl) (.nil ?_)))))
  refine .seq (.seq ((.region (.pc rfl rfl (fun w s => lives_ok w) (.v (.not rfl) (.nil ?_))))))
  refine .cond rfl (fun h => absurd h (by decide)) (fun _ => .skip ?_)
  refine .seq ((.region (.v (.move rfl) (.v (.loadA (vs := [.int .i64 cc, .int .i64 cm]) rfl .whole rfl) (.v (.move rfl) ?_)))))
  by_cases hok : (1 ≤ d ∧ d ≤ 64) ∧ Cfg cc cm
  case neg =>
    refine .pc rfl rfl (fun w s => shown_no w d cc cm A len cap hok) ?_
    refine .v (.move rfl) (.v (.extract rfl rfl) (.v (.extract rfl rfl) (.v (.assign rfl) (.v (.assign rfl) (.nil ?_)))))
    refine .seq (.seq ((.region (.v (.move rfl) (.v (.not rfl) (.v (.move rfl) (.or (b2 := true) 29 31 2 2 rfl rfl (fun g2 => .v (.move rfl) (.v (.eql_ptr_nil rfl rfl) (.nil ⟨rfl, rfl, rfl, rfl⟩))) (.nil ?_))))))))
    refine .cond rfl (fun h3 => ?_) (fun h3 => absurd h3 (by simp))
    refine .seq ((.region (.v (.move rfl) (.v (.assign rfl) (.nil ?_)))))
    exact .ret ⟨[_], ⟨rfl, trivial⟩, rfl⟩
  obtain ⟨hone, hc⟩ := hok
  obtain ⟨dp, rfl⟩ : ∃ dp : Nat, d = dp := ⟨d.toNat, by omega⟩
  refine .ef (.call0 rfl rfl fun w' s => shown_yes w' dp cc cm A len cap l hl (hA.keep0 s) hb hw (by omega) hc) ?_
  rintro _ _ ⟨_, ⟨s1, p1, c1, vD, hD, ps, vP, hP, rfl, rfl, o1, r1, n1⟩, rfl⟩
  refine .v (.move rfl) (.v (.extract rfl rfl) (.v (.extract rfl rfl) (.v (.assign rfl) (.v (.assign rfl) (.nil ?_)))))
  refine .seq (.seq ((.region (.v (.move rfl) (.v (.not rfl) (.v (.move rfl) (.or (b2 := false) 29 31 2 2 rfl rfl (fun g2 => .v (.move rfl) (.v (.eql_ptr_nil rfl rfl) (.nil ⟨rfl, rfl, rfl, rfl⟩))) (.nil ?_))))))))
  refine .cond rfl (fun h => absurd h (by simp)) (fun _ => .skip ?_)
  refine .keep (Swf s1 p1 c1 vD vP hD hP ps) ?_
  obtain ⟨oD, oP, oO⟩ := o1
  obtain ⟨AD, kD, rfl⟩ := OwnS.slice oD
  obtain ⟨AP, kP, rfl⟩ := OwnS.slice oP
  -- the run's facts
  obtain ⟨hR, -, -⟩ := runF (d := dp) (cm := cm) hc hw (by omega) l.length (Nat.le_refl _)
  rw [List.take_length] at hR
  obtain ⟨-, hcnt, -⟩ := run_facts dp cc cm l l.length (Nat.le_refl _)
  rw [List.take_length, ← r1, List.length_map] at hcnt
  obtain ⟨-, hnum, hcan, -, hpic, hmono, hlast⟩ := hR
  have hq := (runF (d := dp) (cm := cm) hc hw (by omega) l.length (Nat.le_refl _)).1.q
  rw [List.take_length] at hq
  generalize (Sh.run dp cc cm l).dt = dt at oD n1 hnum hcan hpic hq
  have hPF : ∀ i, (h : i < ps.length) → ∃ m, PcF dt ps[i].pc m := fun i h => by
    obtain ⟨m, a1, a2, a3, a4, a5⟩ := hpic i (by rw [← r1, List.length_map]; exact h)
    have e : (Sh.run dp cc cm l).pcs[i]'(by rw [← r1, List.length_map]; exact h) = ps[i].pc := by simp only [← r1, List.getElem_map]
    rw [e] at a2 a3 a4 a5
    exact ⟨m, a1, a2, a3, a4, a5⟩
  have hMo : ∀ i, (h : i + 1 < ps.length) → ps[i].pc.seq ≤ ps[i + 1].pc.seq := fun i h => by
    have := hmono i (by rw [← r1, List.length_map]; exact h)
    simp only [← r1, List.getElem_map] at this
    exact this
  have hLa : ∀ i, (h : i < ps.length) → i + 1 = ps.length → ps[i].pc.seq = dt.length := fun i h e => by
    obtain ⟨l', hl'⟩ := hlast
    rw [← r1] at hl'
    have hlen : l'.length = i := by have := congrArg List.length hl'; rw [List.length_map, List.length_append, List.length_singleton] at this; omega
    have : (ps.map (·.pc))[i]'(by rw [List.length_map]; exact h) = pcB (Sh.run dp cc cm l).q dp (Sh.run dp cc cm l).B := by
      simp only [hl']
      rw [List.getElem_append_right (by omega)]
      simp [hlen]
    rw [List.getElem_map] at this
    rw [this]
    exact hq
  have hdl : dt.length < 9223372036854775807 := by omega
  clear hpic hmono hlast hq r1
  -- the two subscribers
  refine .seq ((.region ?_))
  refine .ef (.call0 rfl rfl fun w s => NewSub_yes w (hold := 0) (by decide)) ?_
  rintro _ _ ⟨ha0, ⟨ba, ma, rfl, hSa⟩, rfl⟩
  refine .v (.move rfl) (.v (.extract rfl rfl) (.v (.extract rfl rfl) (.v (.assign rfl) (.v (.assign rfl) (.nil ?_)))))
  refine .seq ((.region ?_))
  refine .ef (.call0 rfl rfl fun w s => NewSub_yes w (hold := 5) (by decide)) ?_
  rintro _ _ ⟨hb0, ⟨bb, mb, rfl, hSb⟩, rfl⟩
  refine .v (.move rfl) (.v (.extract rfl rfl) (.v (.extract rfl rfl) (.v (.assign rfl) (.v (.assign rfl) (.nil ?_)))))
  refine .seq (.seq ((.region (.v (.move rfl) (.v (.nei rfl rfl) (.v (.move rfl) (.or (b2 := false) 44 46 2 2 rfl rfl (fun g2 => .v (.move rfl) (.v (.nei rfl rfl) (.nil ⟨rfl, rfl, rfl, rfl⟩))) (.v (.move rfl) (.or (b2 := false) 48 50 2 2 rfl rfl (fun g3 => .v (.move rfl) (.v (.eql_ptr_nil rfl rfl) (.nil ⟨rfl, rfl, rfl, rfl⟩))) (.v (.move rfl) (.or (b2 := false) 52 54 2 2 rfl rfl (fun g4 => .v (.move rfl) (.v (.eql_ptr_nil rfl rfl) (.nil ⟨rfl, rfl, rfl, rfl⟩))) (.nil ?_))))))))))))
  refine .cond_false rfl (.skip ?_)
  refine .seq ((.region (.v (.assign rfl) (.nil ?_))))
  refine .mid (X := Int) (fun L => [(9, .pointer (some ⟨s1, 0, none⟩)), (11, .pointer (some ⟨ba, 0, none⟩)), (13, .pointer (some ⟨bb, 0, none⟩)), (15, .int .i64 L)]) (fun _ => Swf s1 p1 c1 (.slice AD dt.length kD) (.slice AP ps.length kP) hD hP ps ++ (ha0 ++ hb0)) (fun L => L = -1 ∨ (0 ≤ L ∧ L < ps.length)) (.seq ((.region (.v (.move rfl) (.v (.geq rfl rfl) (.v (.move rfl) (.and (b2 := decide (from_ < (ps.length : Int))) 58 65 7 7 rfl rfl (fun g5 => .v (.move rfl) (.v (.move rfl) (.v (.nilCheck rfl) (.v (.fieldAddr rfl) (.v (.load (v := .slice AP ps.length kP) rfl (.one rfl)) (.v (.len rfl) (.v (.lss rfl rfl) (.nil ⟨rfl, rfl, rfl, rfl⟩)))))))) (.nil ?_)))))))) ?_
  · refine .cond rfl (fun h4 => ?_) (fun h4 => .skip ?_)
    · rw [Bool.and_eq_true] at h4
      have h5 := of_decide_eq_true h4.1
      have h6 := of_decide_eq_true h4.2
      refine .region (.v (.move rfl) (.v (.assign rfl) (.nil ?_)))
      exact ⟨from_, .inr ⟨h5, h6⟩, .cons rfl (.cons rfl (.cons rfl (.cons rfl (.nil _)))), fun _ s => s.take⟩
    · exact ⟨-1, .inl rfl, .cons rfl (.cons rfl (.cons rfl (.cons rfl (.nil _)))), fun _ s => s.take⟩
  intro L hL
  refine .seq ((.region (.v (.assign rfl) (.nil ?_))))
  refine .seq (.seq ((.region (.v (.assign rfl) (.nil ?_)))))
  refine .block (.loop (X := FFS) (fun x => [(9, .pointer (some ⟨s1, 0, none⟩)), (11, .pointer (some ⟨ba, 0, none⟩)), (13, .pointer (some ⟨bb, 0, none⟩)), (15, .int .i64 L), (16, .int .i64 x.n), (17, .int .i64 x.i)]) (FFSH s1 p1 c1 (.slice AD dt.length kD) (.slice AP ps.length kP) hD hP ps) (FFS.I dt ps ba ma bb mb L) (fun x => ps.length - x.i) ⟨0, 0, Sb.new 0, Sb.new 5, ha0, hb0⟩
    ⟨Nat.zero_le _, Nat.zero_le _, fun k hk => absurd hk (Nat.succ_ne_zero k), fun _ => rfl, Fol.new dt (h := 0) (by decide), hSa, hSb, ⟨fun h => absurd h.2 (by have := h.1; show ¬ L < 0; omega), fun _ => Fol.new dt (h := 5) (by decide)⟩⟩ (.cons rfl (.cons rfl (.cons rfl (.cons rfl (.cons rfl (.cons rfl (.nil _))))))) (fun _ s => s) ?_)
  rintro ⟨i, n, S1, S2, h1, h2⟩ ⟨hi, hn, hat, hz0, hF1, hS1, hS2, hB⟩
  dsimp only at hi hn hat hz0 hF1 hS1 hS2 hB ⊢
  refine .seq (.seq ((.region (.v (.move rfl) (.v (.move rfl) (.v (.nilCheck rfl) (.v (.fieldAddr rfl) (.v (.load (v := .slice AP ps.length kP) rfl (.one rfl)) (.v (.len rfl) (.v (.lss rfl rfl) (.nil ?_)))))))))))
  refine .cond_dec rfl (fun h5 => .skip ?_) (fun h5 => .exit ?_)
  case refine_2 =>
    have hil : i = ps.length := by omega
    have hnl : n = dt.length := by
      have := hat (i - 1) (by omega) (by omega)
      rw [hLa (i - 1) (by omega) (by omega)] at this
      omega
    refine .seq ((.region (.v (.move rfl) (.v (.move rfl) (.v (.nilCheck rfl) (.v (.fieldAddr rfl) (.v (.load (v := .slice AD dt.length kD) rfl (.one rfl)) (.v (.len rfl) (.v (.eqi rfl rfl) (.v (.assign rfl) (.nil ?_)))))))))))
    exact .ret ⟨[_], ⟨rfl, trivial⟩, by rw [hnl]; simp [tup]⟩
  have hil : i < ps.length := by omega
  obtain ⟨m, hm⟩ := hPF i hil
  have hnm : n ≤ m := by
    by_cases h0 : i = 0
    · rw [hz0 h0]; omega
    · have e1 := hat (i - 1) (by omega) (by omega)
      have e2 := hMo (i - 1) (by omega)
      have e3 : ps[i - 1 + 1]'(by omega) = ps[i] := by congr 1; omega
      rw [e3, hm.seq] at e2
      omega
  obtain ⟨t1, z1, q1, rfl, -, rfl, -, -, -⟩ := OwnS.some_ oP (by omega)
  have hx := fun hs' hsub => recAt PicD.cells 3 (fun _ => rfl) (z := (i : Int)) (OwnS.at0 (w0 := w) (own := []) (hs := hs') oP hsub) hil
  have hxf := fun hs' hsub => fldAt PicD.cells 3 (fun _ => rfl) (z := (i : Int)) (OwnS.at0 (w0 := w) (own := []) (hs := hs') oP hsub) hil 0 rfl
  have hxo := oO _ (List.getElem_mem hil)
  have hxs : ps[i].hB ++ ps[i].hS ⊆ picH ps := fun y hy => List.mem_flatMap.2 ⟨_, List.getElem_mem hil, hy⟩
  have hat' : ∀ n' : Nat, n' = m → ∀ k, k + 1 = i + 1 → ∀ hk : k < ps.length, (n' : Int) = ps[k].pc.seq := fun n' e k hk hkl => by
    have : k = i := by omega
    subst this
    rw [hm.seq, e]
  have hxl := hm.len hcan
  generalize ps[i] = x at hx hxf hxo hxs hm hat' hxl
  obtain ⟨⟨pq, pb, pS⟩, vB1, vS1, hB1, hS1'⟩ := x
  dsimp only at hxs
  dsimp only at hxl
  obtain ⟨mle, mseq, mlv, mf1, mf2⟩ := hm
  dsimp only at mseq mlv mf1 mf2
  subst mseq
  obtain ⟨x1, x2⟩ := hxo
  dsimp only at x1 x2
  obtain ⟨G1, e1, rfl⟩ := lown_sl x1
  obtain ⟨G2, e2, rfl⟩ := lown_sl x2
  have hcx : (PicD.mk ⟨(m : Int), pb, pS⟩ (.slice G1 pb.length e1) (.slice G2 pS.length e2) hB1 hS1').cells = (pcells (m : Int) (.slice G1 pb.length e1) (.slice G2 pS.length e2)) := rfl
  rw [hcx] at hx
  -- the messages up to the picture
  refine .seq (.block (.mid (X := FFS) (fun x => [(9, .pointer (some ⟨s1, 0, none⟩)), (11, .pointer (some ⟨ba, 0, none⟩)), (13, .pointer (some ⟨bb, 0, none⟩)), (15, .int .i64 L), (16, .int .i64 m), (17, .int .i64 i)]) (FFSH s1 p1 c1 (.slice AD dt.length kD) (.slice (some ⟨t1, z1, none⟩) ps.length kP) hD [(t1, Ch.cells q1 40)] ps) (fun x => FFS.J dt ba ma bb mb L i m x ∧ x.n = m) (.block (.loop (X := FFS) (fun x => [(9, .pointer (some ⟨s1, 0, none⟩)), (11, .pointer (some ⟨ba, 0, none⟩)), (13, .pointer (some ⟨bb, 0, none⟩)), (15, .int .i64 L), (16, .int .i64 x.n), (17, .int .i64 i)]) (FFSH s1 p1 c1 (.slice AD dt.length kD) (.slice (some ⟨t1, z1, none⟩) ps.length kP) hD [(t1, Ch.cells q1 40)] ps) (FFS.J dt ba ma bb mb L i m) (fun x => dt.length - x.n) ⟨i, n, S1, S2, h1, h2⟩
    ⟨rfl, hnm, hF1, hS1, hS2, hB⟩ (.cons rfl (.cons rfl (.cons rfl (.cons rfl (.cons rfl (.cons rfl (.nil _))))))) (fun _ s => s) ?_)) ?_))
  · rintro ⟨i', n, S1, S2, h1, h2⟩ ⟨rfl, hnm, hF1, hS1, hS2, hB⟩
    dsimp only at hnm hF1 hS1 hS2 hB ⊢
    have hne := fun h : n < dt.length => hnum n h
    have hce := fun h : n < dt.length => hcan _ (List.getElem_mem h)
    have hfo := fun h : n < dt.length => hF1.take h (hnum n h) (hcan _ (List.getElem_mem h)) (by omega)
    have hdat : n < dt.length → ∃ t2 z2 q2, AD = some ⟨t2, z2, none⟩ ∧ hD = [(t2, Ch.cells q2 24)] ∧ (∀ h : n < dt.length, ∀ hs' : Hp, [(t2, Ch.cells q2 24)] ⊆ hs' → At w [] hs' ⟨t2, z2 + (n : Int).toNat * 6 + 0, none⟩ [.int .u64 (n + 1)]) ∧ (∀ h : n < dt.length, ∀ hs' : Hp, [(t2, Ch.cells q2 24)] ⊆ hs' → At w [] hs' ⟨t2, z2 + (n : Int).toNat * 6, none⟩ dt[n].cells) := fun h => by
      obtain ⟨t2, z2, q2, rfl, -, rfl, -, -, -⟩ := OwnS.some_ oD (by omega)
      refine ⟨t2, z2, q2, rfl, rfl, fun h hs' hsub => ?_, fun h hs' hsub => recAt Dt.cells 6 (fun _ => rfl) (z := (n : Int)) (OwnS.at0 oD hsub) h⟩
      have := fldAt Dt.cells 6 (fun _ => rfl) (z := (n : Int)) (OwnS.at0 (w0 := w) (own := []) (hs := hs') oD hsub) h 0 (v := .int .u64 dt[n].s) rfl
      rw [hnum n h] at this
      exact this
    refine .seq (.seq ((.drawK (ShB s1 p1 c1 (.slice AD dt.length kD) (.slice (some ⟨t1, z1, none⟩) ps.length kP) :: (t1, Ch.cells q1 40) :: hD) (by intro y hy; simp at hy; rcases hy with rfl | rfl | hy <;> simp [*]) (by kernel_rfl) (by kernel_rfl) ?_)))
    refine .v (fun _ f => .move rfl) (.v (fun _ f => .move rfl) (.v (fun _ f => .nilCheck rfl) (.v (fun _ f => .fieldAddr rfl) (.v (fun _ f => .load (v := .slice AD dt.length kD) rfl (.one (hb := .sub f) rfl)) (.v (fun _ f => .len rfl) (.v (fun _ f => .lss rfl rfl) (.v (fun _ f => .move rfl) (.and (b2 := decide ((n : Int) + 1 ≤ m)) 84 101 17 17 rfl rfl (fun g6 => ?_) (.nil ?_)))))))))
    · have hnl : n < dt.length := by have := of_decide_eq_true g6; omega
      obtain ⟨t2, z2, q2, rfl, rfl, hd1, -⟩ := hdat hnl
      refine .v (fun _ f => .move rfl) (.v (fun _ f => .nilCheck rfl) (.v (fun _ f => .fieldAddr rfl) (.v (fun _ f => .load (v := .slice (some ⟨t2, z2, none⟩) dt.length kD) rfl (.one (hb := .sub f) rfl)) (.v (fun _ f => .move rfl) (.v (fun _ f => .indexAddr rfl rfl (by omega) (by omega)) (.v (fun _ f => .fieldAddr rfl) (.v (fun hs' f => .load (v := .int .u64 (n + 1)) rfl (hd1 hnl hs' (fun y hy => f (by simp at hy; subst hy; simp)))) (.v (fun _ f => .move rfl) (.v (fun _ f => .nilCheck rfl) (.v (fun _ f => .fieldAddr rfl) (.v (fun _ f => .load (v := .slice (some ⟨t1, z1, none⟩) ps.length kP) rfl (.one (hb := .sub f) rfl)) (.v (fun _ f => .move rfl) (.v (fun _ f => .indexAddr rfl rfl (by omega) (by omega)) (.v (fun _ f => .fieldAddr rfl) (.v (fun hs' f => .load (v := .int .u64 m) rfl (hxf hs' (fun y hy => f (by simp at hy; subst hy; simp)))) (.v (fun _ f => .leq rfl rfl) (.nil ⟨rfl, rfl, rfl, rfl⟩)))))))))))))))))
    refine .cond rfl (fun h6 => .skip ?_) (fun h6 => .exit ?_)
    case refine_2 =>
      have h7 : n = m := by
        by_cases h7 : n = m
        · exact h7
        · exfalso
          rw [decide_eq_true (show (n : Int) < (dt.length : Int) by omega), decide_eq_true (show (n : Int) + 1 ≤ m by omega)] at h6
          cases h6
      subst h7
      exact ⟨⟨i', n, S1, S2, h1, h2⟩, ⟨⟨rfl, Nat.le_refl _, hF1, hS1, hS2, hB⟩, rfl⟩, .cons rfl (.cons rfl (.cons rfl (.cons rfl (.cons rfl (.cons rfl (.nil _)))))), fun _ s => s⟩
    rw [Bool.and_eq_true] at h6
    have hnl : n < dt.length := by have := of_decide_eq_true h6.1; omega
    have hnm' : n + 1 ≤ m := by have := of_decide_eq_true h6.2; omega
    obtain ⟨t2, z2, q2, rfl, rfl, -, hd2⟩ := hdat hnl
    have hd2 := hd2 hnl
    obtain ⟨e0, hF1'⟩ := hfo hnl
    have hT1 := fun w' => take_ok w' ba ma S1 dt[n] h1 hS1 (hF1.size' hcan)
    have hB2 : OnB dt L i' (n + 1) (if 0 ≤ L ∧ L < i' then (S2.take dt[n]).1 else S2) ∧ (0 ≤ L ∧ L < i' → (S2.take dt[n]).2 = 0) := by
      by_cases hh : 0 ≤ L ∧ L < i'
      · rw [if_pos hh]
        have := (hB.1 hh).take hnl (hnum n hnl) (hcan _ (List.getElem_mem hnl)) (by omega)
        exact ⟨⟨fun _ => this.2, fun h => absurd hh h⟩, fun _ => this.1⟩
      · rw [if_neg hh]
        exact ⟨⟨fun h => absurd h hh, fun _ => hB.2 hh⟩, fun h => absurd h hh⟩
    have hT2 := fun w' => take_ok w' bb mb S2 dt[n] h2 hS2 (hB.size hcan)
    generalize dt[n] = x at hd2 e0 hF1' hT1 hB2 hT2
    generalize S1.take x = D1 at e0 hF1' hT1
    obtain ⟨S1', r1⟩ := D1
    dsimp only at e0 hF1' hT1
    subst e0
    refine .block (.seq (.seq ((.region (.v (.move rfl) (.v (.move rfl) (.v (.nilCheck rfl) (.v (.fieldAddr rfl) (.v (.load (v := .slice (some ⟨t2, z2, none⟩) dt.length kD) rfl (.one rfl)) (.v (.move rfl) (.v (.indexAddr rfl rfl (by omega) (by omega)) (.v (.loadA (vs := x.cells) rfl (hd2 _ (fun y hy => by simp at hy; subst hy; simp)) rfl) ?_))))))))))))
    refine .ef (.callT h1 rfl rfl fun w s => hT1 w) ?_
    rintro _ _ ⟨h1', ⟨rfl, hS1'⟩, rfl⟩
    refine .v (.nei rfl rfl) (.v (.move rfl) (.v (.move rfl) (.v (.geq rfl rfl) (.v (.move rfl) (.and (b2 := decide (L < (i' : Int))) 116 119 3 3 rfl rfl (fun g8 => .v (.move rfl) (.v (.move rfl) (.v (.gtr rfl rfl) (.nil ⟨rfl, rfl, rfl, rfl⟩)))) (.v (.move rfl) (.splitB (t := 121) rfl (fun hb1 => ?_) (fun hb1 => ?_))))))))
    · have hC : 0 ≤ L ∧ L < i' := by rw [Bool.and_eq_true] at hb1; exact ⟨of_decide_eq_true hb1.1, of_decide_eq_true hb1.2⟩
      obtain ⟨hB2, hr2⟩ := hB2
      have hr2 := hr2 hC
      rw [if_pos hC] at hB2
      generalize S2.take x = D2 at hr2 hB2 hT2
      obtain ⟨S2', r2⟩ := D2
      dsimp only at hr2 hB2 hT2
      subst hr2
      refine .v (.move rfl) (.v (.move rfl) (.v (.nilCheck rfl) (.v (.fieldAddr rfl) (.v (.load (v := .slice (some ⟨t2, z2, none⟩) dt.length kD) rfl (.one rfl)) (.v (.move rfl) (.v (.indexAddr rfl rfl (by omega) (by omega)) (.v (.loadA (vs := x.cells) rfl (hd2 _ (fun y hy => by simp at hy; subst hy; simp)) rfl) ?_)))))))
      refine .ef (.callT h2 rfl rfl fun w s => hT2 w) ?_
      rintro _ _ ⟨h2', ⟨rfl, hS2'⟩, rfl⟩
      refine .v (.nei rfl rfl) (.v (Val.pickT rfl rfl rfl) (.v (Val.pickF rfl rfl rfl) (.nil ?_)))
      refine .cond rfl (fun h => absurd h (by decide)) (fun _ => .skip ?_)
      refine .region (.v (.move rfl) (.v (.addi rfl rfl (by omega)) (.v (.assign rfl) (.nil ?_))))
      exact ⟨⟨i', n + 1, S1', S2', h1', h2'⟩, ⟨rfl, hnm', hF1', hS1', hS2', hB2⟩, by show dt.length - (n + 1) < _; omega, .cons rfl (.cons rfl (.cons rfl (.cons rfl (.cons rfl (.cons rfl (.nil _)))))), fun _ s => s.take⟩
    · have hC : ¬ (0 ≤ L ∧ L < i') := fun hh => by rw [decide_eq_true hh.1, decide_eq_true hh.2] at hb1; cases hb1
      obtain ⟨hB2, -⟩ := hB2
      rw [if_neg hC] at hB2
      refine .sk (.sk (.sk (.sk (.sk (.sk (.sk (.sk (.sk (.sk (.v (Val.pickF rfl rfl rfl) (.v (Val.pickF rfl rfl rfl) (.nil ?_))))))))))))
      refine .cond rfl (fun h => absurd h (by decide)) (fun _ => .skip ?_)
      refine .region (.v (.move rfl) (.v (.addi rfl rfl (by omega)) (.v (.assign rfl) (.nil ?_))))
      exact ⟨⟨i', n + 1, S1', S2, h1', h2⟩, ⟨rfl, hnm', hF1', hS1', hS2, hB2⟩, by show dt.length - (n + 1) < _; omega, .cons rfl (.cons rfl (.cons rfl (.cons rfl (.cons rfl (.cons rfl (.nil _)))))), fun _ s => s.take⟩
  · rintro ⟨i', n', S1, S2, h1, h2⟩ ⟨⟨rfl, hnm, hF1, hS1, hS2, hB⟩, rfl⟩
    dsimp only at hnm hF1 hS1 hS2 hB ⊢
    dsimp only at mle mlv hat' hx hxf hB hil x1 x2
    refine .mid (X := Sb × Hp) (fun z => [(9, .pointer (some ⟨s1, 0, none⟩)), (11, .pointer (some ⟨ba, 0, none⟩)), (13, .pointer (some ⟨bb, 0, none⟩)), (15, .int .i64 L), (16, .int .i64 n'), (17, .int .i64 i')]) (fun z => Swf s1 p1 c1 (.slice AD dt.length kD) (.slice (some ⟨t1, z1, none⟩) ps.length kP) hD [(t1, Ch.cells q1 40)] ps ++ (h1 ++ z.2)) (fun z => OnB dt L (i' + 1) n' z.1 ∧ SubH bb mb z.1 z.2) (.seq ((.region (.v (.move rfl) (.v (.move rfl) (.v (.eqi rfl rfl) (.v (.move rfl) (.splitB (t := 139) rfl (fun hb1 => ?_) (fun hb1 => ?_))))))))) ?_
    · have hC : (i' : Int) = L := of_decide_eq_true hb1
      have hF2 := hB.2 (by omega)
      obtain ⟨e0, hF2'⟩ := hF2.recover mlv mf1 mf2 (Nat.zero_le _) (by omega)
      refine .v (.move rfl) (.v (.move rfl) (.v (.nilCheck rfl) (.v (.fieldAddr rfl) (.v (.load (v := .slice (some ⟨t1, z1, none⟩) ps.length kP) rfl (.one rfl)) (.v (.move rfl) (.v (.indexAddr rfl rfl (by omega) (by omega)) (.v (.loadA (vs := pcells (n' : Int) (.slice G1 pb.length e1) (.slice G2 pS.length e2)) rfl (hx _ (fun y hy => by simp at hy; subst hy; simp)) rfl) ?_)))))))
      have hT := fun w' r1 r2 => Recover_ok w' bb mb S2 hF2.ok h2 hS2 n' pb pS G1 G2 e1 e2 r1 r2 (by omega)
      generalize S2.rec_ n' pb pS = D at e0 hF2' hT
      obtain ⟨S2', r2⟩ := D
      dsimp only at e0 hF2' hT
      subst e0
      refine .ef (.callT h2 rfl rfl fun w s => hT w (OwnS.rd x1 s (fun y hy => by simp [hxs (List.mem_append_left _ hy)]) (fun b hb => Sat.apart (a := picH ps) (b := h2) s b (List.map_subset _ hxs (by simp only [List.map_append, List.mem_append]; exact .inl hb)))) (OwnS.rd x2 s (fun y hy => by simp [hxs (List.mem_append_right _ hy)]) (fun b hb => Sat.apart (a := picH ps) (b := h2) s b (List.map_subset _ hxs (by simp only [List.map_append, List.mem_append]; exact .inr hb))))) ?_
      rintro _ _ ⟨h2', ⟨rfl, hS2'⟩, rfl⟩
      refine .v (.nei rfl rfl) (.v (Val.pickT rfl rfl rfl) (.nil ?_))
      refine .cond rfl (fun h => absurd h (by decide)) (fun _ => .skip ?_)
      exact ⟨(S2', h2'), ⟨⟨fun _ => hF2', fun h => absurd (by omega) h⟩, hS2'⟩, .cons rfl (.cons rfl (.cons rfl (.cons rfl (.cons rfl (.cons rfl (.nil _)))))), fun _ s => s.take⟩
    · have hC : ¬ (i' : Int) = L := of_decide_eq_false hb1
      refine .sk (.sk (.sk (.sk (.sk (.sk (.sk (.sk (.sk (.sk (.v (Val.pickF rfl rfl rfl) (.nil ?_)))))))))))
      refine .cond rfl (fun h => absurd h (by decide)) (fun _ => .skip ?_)
      exact ⟨(S2, h2), ⟨⟨fun h => hB.1 (by omega), fun h => hB.2 (by omega)⟩, hS2⟩, .cons rfl (.cons rfl (.cons rfl (.cons rfl (.cons rfl (.cons rfl (.nil _)))))), fun _ s => s.take⟩
    · rintro ⟨S2', h2'⟩ ⟨hB', hS2'⟩
      dsimp only at hB' hS2' ⊢
      clear hB hS2
      have e1a : S1.seq = (⟨(n' : Int), pb, pS⟩ : Pc).seq := hF1.seq
      have e1b : (S1.bs, S1.ss) = ((⟨(n' : Int), pb, pS⟩ : Pc).bs, (⟨(n' : Int), pb, pS⟩ : Pc).ss) := hF1.lv.trans mlv
      have hz1 := hF1.size' hcan
      refine .seq ((.drawP [0, 1, 2, 3, 4, 6, 7, 8, 9, 10, 11, 12, 5, 13, 14, 15, 16, 17, 18, 19, 20, 21, 22, 23, 24, 25, 26, 27, 28, 29, 31, 32, 33, 34, 35, 36, 37, 30, 38, 39, 40, 41, 42] [ShB s1 p1 c1 (.slice AD dt.length kD) (.slice (some ⟨t1, z1, none⟩) ps.length kP), (t1, Ch.cells q1 40)] (by intro y hy; simp at hy; rcases hy with rfl | rfl <;> simp) (by kernel_rfl) (by kernel_rfl) ?_))
      refine .v (fun _ f => .move rfl) (.pc (v := .bool true) rfl rfl (fun w s => GoodT hF1.good s hS1 (fun y hy => by simp [hy])) (.v (fun _ f => .not rfl) (.v (fun _ f => .move rfl) ?_)))
      refine .v (fun _ f => .move rfl) (.v (fun _ f => .move rfl) (.v (fun _ f => .nilCheck rfl) (.v (fun _ f => .fieldAddr rfl) (.v (fun _ f => .load (v := .slice (some ⟨t1, z1, none⟩) ps.length kP) rfl (.one (hb := .sub f) rfl)) (.v (fun _ f => .move rfl) (.v (fun _ f => .indexAddr rfl rfl (by omega) (by omega)) (.v (fun hs' f => .loadA (vs := pcells (n' : Int) (.slice G1 pb.length e1) (.slice G2 pS.length e2)) rfl (hx hs' (fun y hy => f (by simp at hy; subst hy; simp))) rfl) ?_)))))))
      refine .cl rfl rfl (fun w s => PictureF e1a e1b s hS1 (fun y hy => by simp [hy]) hz1) ?_
      rintro _ _ ⟨E1, E2, f1, f2, u1, u2, rfl, rfl, y1, y2⟩
      dsimp only at y1 y2 ⊢
      refine .pc (v := .bool true) rfl rfl (fun w s => samePicture_ok w E1 E2 G1 G2 f1 f2 e1 e2 ⟨(n' : Int), pb, pS⟩ (OwnS.rd y1 s (no := []) (fun y hy => by simp [hy]) (by simp)) (OwnS.rd y2 s (no := []) (fun y hy => by simp [hy]) (by simp)) (OwnS.rd x1 s (no := []) (fun y hy => by simp [hxs (List.mem_append_left _ hy)]) (by simp)) (OwnS.rd x2 s (no := []) (fun y hy => by simp [hxs (List.mem_append_right _ hy)]) (by simp)) (by dsimp only; omega)) ?_
      refine .v (fun _ f => .not rfl) (.v (fun _ f => Val.pickF rfl rfl rfl) (.v (fun _ f => .move rfl) (.v (fun _ f => .move rfl) (.v (fun _ f => .geq rfl rfl) (.v (fun _ f => .move rfl) (.and (b2 := decide (L ≤ (i' : Int))) 170 173 3 3 rfl rfl (fun g13 => .v (fun _ f => .move rfl) (.v (fun _ f => .move rfl) (.v (fun _ f => .geq rfl rfl) (.nil ⟨rfl, rfl, rfl, rfl⟩)))) (.v (fun _ f => .move rfl) (.splitB (t := 175) rfl (fun hb1 => ?_) (fun hb1 => ?_)))))))))
      · have hC : 0 ≤ L ∧ L ≤ i' := by rw [Bool.and_eq_true] at hb1; exact ⟨of_decide_eq_true hb1.1, of_decide_eq_true hb1.2⟩
        have hF2 := hB'.1 (by omega)
        have e2a : S2'.seq = (⟨(n' : Int), pb, pS⟩ : Pc).seq := hF2.seq
        have e2b : (S2'.bs, S2'.ss) = ((⟨(n' : Int), pb, pS⟩ : Pc).bs, (⟨(n' : Int), pb, pS⟩ : Pc).ss) := hF2.lv.trans mlv
        have hz2 := hF2.size' hcan
        refine .v (fun _ f => .move rfl) (.pc (v := .bool true) rfl rfl (fun w s => GoodT hF2.good s hS2' (fun y hy => by simp [hy])) (.v (fun _ f => .not rfl) (.v (fun _ f => .move rfl) ?_)))
        refine .v (fun _ f => .move rfl) (.v (fun _ f => .move rfl) (.v (fun _ f => .nilCheck rfl) (.v (fun _ f => .fieldAddr rfl) (.v (fun _ f => .load (v := .slice (some ⟨t1, z1, none⟩) ps.length kP) rfl (.one (hb := .sub f) rfl)) (.v (fun _ f => .move rfl) (.v (fun _ f => .indexAddr rfl rfl (by omega) (by omega)) (.v (fun hs' f => .loadA (vs := pcells (n' : Int) (.slice G1 pb.length e1) (.slice G2 pS.length e2)) rfl (hx hs' (fun y hy => f (by simp at hy; subst hy; simp))) rfl) ?_)))))))
        refine .cl rfl rfl (fun w s => PictureF e2a e2b s hS2' (fun y hy => by simp [hy]) hz2) ?_
        rintro _ _ ⟨H1, H2, g1, g2, u3, u4, rfl, rfl, y3, y4⟩
        dsimp only at y3 y4 ⊢
        refine .pc (v := .bool true) rfl rfl (fun w s => samePicture_ok w H1 H2 G1 G2 g1 g2 e1 e2 ⟨(n' : Int), pb, pS⟩ (OwnS.rd y3 s (no := []) (fun y hy => by simp [hy]) (by simp)) (OwnS.rd y4 s (no := []) (fun y hy => by simp [hy]) (by simp)) (OwnS.rd x1 s (no := []) (fun y hy => by simp [hxs (List.mem_append_left _ hy)]) (by simp)) (OwnS.rd x2 s (no := []) (fun y hy => by simp [hxs (List.mem_append_right _ hy)]) (by simp)) (by dsimp only; omega)) ?_
        refine .v (fun _ f => .not rfl) (.v (fun _ f => Val.pickF rfl rfl rfl) (.v (fun _ f => Val.pickT rfl rfl rfl) (.v (fun _ f => Val.pickF rfl rfl rfl) (.nil ?_))))
        refine .cond rfl (fun h => absurd h (by decide)) (fun _ => .skip ?_)
        refine .region (.v (.move rfl) (.v (.addi rfl rfl (by omega)) (.v (.assign rfl) (.nil ?_))))
        exact ⟨⟨i' + 1, n', S1, S2', h1, h2'⟩, ⟨by show i' + 1 ≤ _; omega, mle, hat' n' rfl, fun h => absurd h (Nat.succ_ne_zero i'), hF1, hS1, hS2', by simpa using hB'⟩, by show ps.length - (i' + 1) < _; omega, .cons rfl (.cons rfl (.cons rfl (.cons rfl (.cons rfl (.cons rfl (.nil _)))))), fun _ s => s.take⟩
      · refine .skn 15 rfl (.sk (.v (fun _ f => Val.pickF rfl rfl rfl) (.v (fun _ f => Val.pickF rfl rfl rfl) (.nil ?_))))
        refine .cond rfl (fun h => absurd h (by decide)) (fun _ => .skip ?_)
        refine .region (.v (.move rfl) (.v (.addi rfl rfl (by omega)) (.v (.assign rfl) (.nil ?_))))
        exact ⟨⟨i' + 1, n', S1, S2', h1, h2'⟩, ⟨by show i' + 1 ≤ _; omega, mle, hat' n' rfl, fun h => absurd h (Nat.succ_ne_zero i'), hF1, hS1, hS2', by simpa using hB'⟩, by show ps.length - (i' + 1) < _; omega, .cons rfl (.cons rfl (.cons rfl (.cons rfl (.cons rfl (.cons rfl (.nil _)))))), fun _ s => s.take⟩
end Go.Proofs.Ytinmhhonpflojaa

/- VN: slices of anything that come in: the cells of each element, and what each is read as. -/
namespace Go
namespace V
open Go.RowKit Go.ChangeShapes Go.WideShapes Go.ChangeAt
set_option linter.unusedVariables false

/-- these cells are read as 'd' -/
def TC {H : Type} (enc : TypeId × Value → H) (P : Program) (w : World) (base : Nat) (spare : Nat → Bool) (held : Bool) (t : TypeId) (cs : List Value) (d : DataW H) : Prop :=
  ∃ fuel p, DataW.trod enc P w base spare held fuel t cs = some (d, p)
section
variable {H : Type} {enc : TypeId × Value → H} {P : Program} {w : World} {base : Nat} {spare : Nat → Bool} {held : Bool}
theorem TC.of {t : TypeId} {v : Value} {cs : List Value} {d : DataW H} {p : List MemPlace} (h : DataW.Trod enc P w base spare held t v d p) (hc : v.cells = ⟨cs⟩) : TC enc P w base spare held t cs d := by
  obtain ⟨fuel, hf⟩ := h
  rw [hc] at hf
  exact ⟨fuel, p, hf⟩
theorem TC.int {t : TypeId} {k : IntKind} {cs : List Value} {d : DataW H} (ht : P.underlying t = some (.int k)) (h : TC enc P w base spare held t cs d) : ∃ n, cs = [.int k n] ∧ (Lit.int k n).wf = true := by
  obtain ⟨fuel, p, hf⟩ := h
  obtain ⟨n, h1, _, h2⟩ := DataW.trod_int ht hf
  exact ⟨n, h1, h2⟩
theorem TC.bool {t : TypeId} {cs : List Value} {d : DataW H} (ht : P.underlying t = some .bool) (h : TC enc P w base spare held t cs d) : ∃ b, cs = [.bool b] := by
  obtain ⟨fuel, p, hf⟩ := h
  obtain ⟨b, h1, _⟩ := DataW.trod_bool ht hf
  exact ⟨b, h1⟩
theorem TC.plain {t : TypeId} {cs : List Value} {d : DataW H} {ls : List Lf} (hl : leaves P 8 t = some ls) (hs : P.cellsOf t = ls.length) (h : TC enc P w base spare held t cs d) : okw ls cs := by
  obtain ⟨fuel, p, hf⟩ := h
  exact trod_plain 8 t ls fuel cs _ hl hs hf
/-- a struct's fields -/
theorem TC.struct {t : TypeId} {fs : Array Field} {cs : List Value} {d : DataW H} (ht : P.underlying t = some (.struct fs)) (h : TC enc P w base spare held t cs d) :
    ∃ ds, d = .agg ds ∧ ds.length = fs.size ∧ cs.length = P.cellsOf t ∧ ∀ (i : Nat) (f : Field) (di : DataW H), fs[i]? = some f → ds[i]? = some di → TC enc P w base spare held f.type ((cs.drop f.offset).take (P.cellsOf f.type)) di := by
  obtain ⟨fuel, p, hf⟩ := h
  obtain ⟨xs, n, _, hx, hl, hn, hf⟩ := DataW.trod_struct ht hf
  simp only [Prod.mk.injEq] at hx
  refine ⟨xs.map (·.1), hx.1, by simpa using hn, hl, fun i f di h1 h2 => ?_⟩
  have := hf i f h1
  rw [List.getElem?_map] at h2
  cases h3 : xs[i]? with
  | none => rw [h3] at h2; cases h2
  | some x =>
    rw [h3] at h2 this
    simp at h2
    exact ⟨n, x.2, by rw [this, ← h2]⟩
/-- a slice's elements -/
theorem TC.slice {t e m : Nat} {cs : List Value} {d : DataW H} (ht : P.underlying t = some (.slice e)) (hm : P.cellsOf e = m) (h0 : 0 < m) (h : TC enc P w base spare held t cs d) :
    ∃ A len cap, ∃ (css : List (List Value)) (ds : List (DataW H)), cs = [.slice A len cap] ∧ css.length = len ∧ ds.length = len ∧ (∀ c ∈ css, c.length = m) ∧ (∀ (i : Nat) (c : List Value), css[i]? = some c → ∀ (j : Nat) (v : Value), c[j]? = some v → ∃ b o, A = some ⟨b, o, none⟩ ∧ w.cell? ⟨b, o + (i * m + j), none⟩ = some v) ∧
      (d = .nil ∧ len = 0 ∨ ∃ sp, d = .slice ds sp) ∧ ∀ (i : Nat) (c : List Value) (di : DataW H), css[i]? = some c → ds[i]? = some di → TC enc P w base spare held e c di := by
  obtain ⟨fuel, p, hf⟩ := h
  rcases DataW.trod_slice ht hf with ⟨rfl, hx⟩ | ⟨a, len, cap, elems, rest, n, _, rfl, hx, hb, hl, hc, hn, he, _⟩
  · simp only [Prod.mk.injEq] at hx
    exact ⟨none, 0, 0, [], [], rfl, rfl, rfl, by simp, by simp, .inl ⟨hx.1, rfl⟩, by simp⟩
  · simp only [Prod.mk.injEq] at hx
    rw [hm] at he
    have each : ∀ i, i < len → ∃ c x, w.cells? base (a.add (i * m)) m = some c ∧ DataW.trod enc P w base spare held n e c = some x ∧ elems[i]? = some x := by
      intro i hi
      have := he i hi
      rw [List.getElem?_eq_getElem (by omega)] at this
      obtain ⟨c, h1, h2⟩ := Option.bind_eq_some_iff.1 this
      exact ⟨c, _, h1, h2, List.getElem?_eq_getElem (by omega)⟩
    have hcs : ∃ css : List (List Value), css.length = len ∧ ∀ i c, css[i]? = some c → ∃ x, w.cells? base (a.add (i * m)) m = some c ∧ DataW.trod enc P w base spare held n e c = some x ∧ elems[i]? = some x := by
      have key : ∀ k, k ≤ len → ∃ css : List (List Value), css.length = k ∧ ∀ i c, css[i]? = some c → ∃ x, w.cells? base (a.add (i * m)) m = some c ∧ DataW.trod enc P w base spare held n e c = some x ∧ elems[i]? = some x := by
        intro k
        induction k with
        | zero => intro _; exact ⟨[], rfl, by simp⟩
        | succ k ih =>
          intro hk
          obtain ⟨css, h1, h2⟩ := ih (by omega)
          obtain ⟨c, x, h3⟩ := each k (by omega)
          refine ⟨css ++ [c], by simp [h1], fun i c' hc' => ?_⟩
          by_cases hi : i < k
          · rw [List.getElem?_append_left (by omega)] at hc'
            exact h2 i c' hc'
          · rw [List.getElem?_append_right (by omega)] at hc'
            have hik : i = k := by
              have := (List.getElem?_eq_some_iff.1 hc').1
              simp at this; omega
            subst hik
            simp [h1] at hc'
            subst hc'
            exact ⟨x, h3⟩
      exact key len (Nat.le_refl _)
    obtain ⟨css, h1, h2⟩ := hcs
    refine ⟨some a, len, cap, css, elems.map (·.1), rfl, h1, by simpa using hn, fun c hc => ?_, fun i c hc j v hv => ?_, .inr ⟨_, hx.1⟩, fun i c di hc hdi => ?_⟩
    · obtain ⟨i, hi⟩ := List.mem_iff_getElem?.1 hc
      obtain ⟨x, h3, _⟩ := h2 i c hi
      exact (World.cells?_some h3).2.1
    · obtain ⟨x, h3, _⟩ := h2 i c hc
      obtain ⟨g1, g2, g3⟩ := World.cells?_some h3
      have hj := (List.getElem?_eq_some_iff.1 hv).1
      have hcell := g3 j (by omega)
      rw [hv] at hcell
      obtain ⟨b, o, sp⟩ := a
      have hsp : sp = none := by
        have hlt : 0 < css.length := by
          have := (List.getElem?_eq_some_iff.1 hc).1
          omega
        obtain ⟨x0, k3, _⟩ := h2 0 css[0] (List.getElem?_eq_getElem hlt)
        obtain ⟨_, k2, k4⟩ := World.cells?_some k3
        have := k4 0 h0
        rw [List.getElem?_eq_getElem (by omega)] at this
        simpa [Addr.add] using World.cell?_spot this
      subst hsp
      refine ⟨b, o, rfl, ?_⟩
      rw [add_none, add_none, Nat.add_assoc] at hcell
      exact hcell
    · obtain ⟨x, h3, h4, h5⟩ := h2 i c hc
      rw [List.getElem?_map, h5] at hdi
      simp at hdi
      exact ⟨n, x.2, by rw [h4, ← hdi]⟩
end
/-- one for each number below n -/
theorem list_of {α : Type} {Q : Nat → α → Prop} (n : Nat) (h : ∀ i, i < n → ∃ x, Q i x) : ∃ l : List α, l.length = n ∧ ∀ (i : Nat) (x : α), l[i]? = some x → Q i x := by
  induction n with
  | zero => exact ⟨[], rfl, by simp⟩
  | succ n ih =>
    obtain ⟨l, h1, h2⟩ := ih fun i hi => h i (by omega)
    obtain ⟨x, hx⟩ := h n (by omega)
    refine ⟨l ++ [x], by simp [h1], fun i y hy => ?_⟩
    by_cases hi : i < n
    · rw [List.getElem?_append_left (by omega)] at hy
      exact h2 i y hy
    · rw [List.getElem?_append_right (by omega)] at hy
      have hlt := (List.getElem?_eq_some_iff.1 hy).1
      simp at hlt
      have : i = n := by omega
      subst this
      simp [h1] at hy
      subst hy
      exact hx
section
variable {H : Type} {enc : TypeId × Value → H} {P : Program} {w : World} {base : Nat} {spare : Nat → Bool} {held : Bool}
/-- bytes -/
theorem TC.bytes {t e : Nat} {cs : List Value} {d : DataW H} (ht : P.underlying t = some (.slice e)) (he : P.underlying e = some (.int .u8)) (hm : P.cellsOf e = 1) (h : TC enc P w base spare held t cs d) :
    ∃ A c ys, cs = [.slice A (List.length ys) c] ∧ Rd w [] A (byts ys) ∧ (d = .nil ∧ ys = [] ∨ ∃ ds sp, d = .slice ds sp ∧ ds.length = ys.length) := by
  obtain ⟨A, len, cap, css, ds, h1, h2, h3, h4, h5, h6, h7⟩ := h.slice ht hm (by omega)
  obtain ⟨ys, hy1, hy2⟩ := list_of (Q := fun i (y : BitVec 8) => css[i]? = some [.int .u8 y.toNat]) len (fun i hi => by
    have hc := List.getElem?_eq_getElem (show i < css.length by omega)
    have hd := List.getElem?_eq_getElem (show i < ds.length by omega)
    obtain ⟨n, hn, hw⟩ := (h7 i _ _ hc hd).int he
    have := wf_u8 hw
    refine ⟨BitVec.ofNat 8 n.toNat, ?_⟩
    rw [hc, hn]
    simp
    omega)
  refine ⟨A, cap, ys, by rw [h1, hy1], fun j v hv => ?_, ?_⟩
  · have hj : j < ys.length := by have := (List.getElem?_eq_some_iff.1 hv).1; simpa [byts_length] using this
    rw [byts_get hj] at hv
    have h8 := hy2 j _ (List.getElem?_eq_getElem hj)
    obtain ⟨b, o, e1, e2⟩ := h5 j _ h8 0 v (by simpa using hv)
    exact ⟨b, o, e1, by simp, by simpa using e2⟩
  · rcases h6 with ⟨e1, e2⟩ | ⟨sp, e1⟩
    · exact .inl ⟨e1, List.eq_nil_of_length_eq_zero (by omega)⟩
    · exact .inr ⟨ds, sp, e1, by omega⟩
end
end V
end Go

/- VT: lists of plain records that come in; what their lengths are held to. -/
namespace Go
namespace V
open Go.RowKit Go.ChangeShapes Go.WideShapes Go.ChangeAt
set_option linter.unusedVariables false

theorem flatten_get {m : Nat} : ∀ (rs : List (List Value)), (∀ r ∈ rs, r.length = m) → ∀ (k : Nat) (v : Value), rs.flatten[k]? = some v → ∃ i j r, rs[i]? = some r ∧ r[j]? = some v ∧ k = i * m + j
  | [], _, k, v, h => by simp at h
  | r :: rs, hm, k, v, h => by
    rw [List.flatten_cons] at h
    by_cases hk : k < r.length
    · rw [List.getElem?_append_left hk] at h
      exact ⟨0, k, r, rfl, h, by simp⟩
    · rw [List.getElem?_append_right (by omega)] at h
      obtain ⟨i, j, r', h1, h2, h3⟩ := flatten_get rs (fun r hr => hm r (List.mem_cons_of_mem _ hr)) _ v h
      have := hm r List.mem_cons_self
      exact ⟨i + 1, j, r', by simpa using h1, h2, by rw [Nat.succ_mul]; omega⟩
theorem map_of {α β : Type} {f : α → β} {Q : α → Prop} : ∀ (rs : List β), (∀ r ∈ rs, ∃ x, r = f x ∧ Q x) → ∃ l : List α, rs = l.map f ∧ ∀ x ∈ l, Q x
  | [], _ => ⟨[], rfl, by simp⟩
  | r :: rs, h => by
    obtain ⟨x, h1, h2⟩ := h r List.mem_cons_self
    obtain ⟨l, h3, h4⟩ := map_of rs fun r hr => h r (List.mem_cons_of_mem _ hr)
    exact ⟨x :: l, by simp [h1, h3], fun y hy => by rcases List.mem_cons.1 hy with rfl | hy; exact h2; exact h4 y hy⟩
theorem okw_length : ∀ {ls : List Lf} {cs : List Value}, okw ls cs → cs.length = ls.length
  | [], [], _ => rfl
  | l :: ls, c :: cs, h => by have := okw_length h.2; simp [this]
  | [], _ :: _, h => h.elim
  | _ :: _, [], h => h.elim
section
variable {H : Type} {enc : TypeId × Value → H} {P : Program} {w : World} {base : Nat} {spare : Nat → Bool} {held : Bool}
/-- a slice of plain records -/
theorem TC.recs {t e : Nat} {ls : List Lf} {cs : List Value} {d : DataW H} (ht : P.underlying t = some (.slice e)) (hl : leaves P 8 e = some ls) (hs : P.cellsOf e = ls.length) (h0 : 0 < ls.length) (h : TC enc P w base spare held t cs d) :
    ∃ A cap, ∃ rs : List (List Value), cs = [.slice A rs.length cap] ∧ (∀ r ∈ rs, okw ls r) ∧ Rd w [] A rs.flatten ∧ (d = .nil ∧ rs = [] ∨ ∃ ds sp, d = .slice ds sp ∧ ds.length = rs.length) := by
  obtain ⟨A, len, cap, css, ds, h1, h2, h3, h4, h5, h6, h7⟩ := h.slice ht hs h0
  refine ⟨A, cap, css, by rw [h1, h2], fun r hr => ?_, fun k v hv => ?_, ?_⟩
  · obtain ⟨i, hi, rfl⟩ := List.mem_iff_getElem.1 hr
    exact (h7 i _ _ (List.getElem?_eq_getElem hi) (List.getElem?_eq_getElem (by omega))).plain hl hs
  · obtain ⟨i, j, r, e1, e2, rfl⟩ := flatten_get css h4 k v hv
    obtain ⟨b, o, e3, e4⟩ := h5 i r e1 j v e2
    exact ⟨b, o, e3, by simp, e4⟩
  · rcases h6 with ⟨e1, e2⟩ | ⟨sp, e1⟩
    · exact .inl ⟨e1, List.eq_nil_of_length_eq_zero (by omega)⟩
    · exact .inr ⟨ds, sp, e1, by omega⟩
/-- the weights of a struct's parts -/
theorem sized_agg {ts : List TypeId} {ds : List (DataW H)} (h : (DataW.weightsEach P ts ds).all (· ≤ reachBytes) = true) {j : Nat} {t : TypeId} {fs : Array Field} {parts : List (DataW H)} (ht : ts[j]? = some t) (hd : ds[j]? = some (.agg parts)) (hu : P.underlying t = some (.struct fs)) :
    (DataW.weightsEach P (fs.toList.map (·.type)) parts).all (· ≤ reachBytes) = true := by
  rw [List.all_eq_true]
  intro x hx
  exact List.all_eq_true.1 h _ (DataW.weights_mem_each ht hd x (by simp only [DataW.weights, hu]; exact hx))
theorem sized_len {ts : List TypeId} {ds : List (DataW H)} (h : (DataW.weightsEach P ts ds).all (· ≤ reachBytes) = true) {j n : Nat} {t e : TypeId} {d : DataW H} (ht : ts[j]? = some t) (hd : ds[j]? = some d) (hu : P.underlying t = some (.slice e))
    (hk : d = .nil ∧ n = 0 ∨ ∃ es sp, d = .slice es sp ∧ es.length = n) : n * P.bytesOf e ≤ reachBytes := by
  rcases hk with ⟨_, rfl⟩ | ⟨es, sp, rfl, rfl⟩
  · simp
  · have := sized_slice h ht hd hu
    have h2 : es.length * P.bytesOf e ≤ (es.length + sp.length) * P.bytesOf e := Nat.mul_le_mul_right _ (by omega)
    omega
end
end V
end Go

/- VB: slices that come in: they have room for what they hold. -/
namespace Go
namespace V
open Go.RowKit Go.ChangeShapes Go.WideShapes
set_option linter.unusedVariables false
set_option linter.unusedSimpArgs false
section
variable {P : Program} {H : Type} {enc : TypeId × Value → H} {w : World} {base : Nat} {spare : Nat → Bool} {held : Bool}
theorem TC.cap {t e len cap : Nat} {A : Option Addr} {d : DataW H} (ht : P.underlying t = some (.slice e)) (h : TC enc P w base spare held t [.slice A len cap] d) : len ≤ cap := by
  obtain ⟨fuel, p, hf⟩ := h
  rcases DataW.trod_slice ht hf with ⟨e1, hx⟩ | ⟨a, len', cap', elems, rest, n, _, e1, hx, hb, hl, hc, hn, he, _⟩
  · simp at e1; omega
  · simp at e1
    obtain ⟨rfl, rfl, rfl⟩ := e1
    omega
/-- a slice of plain records, with its room -/
theorem TC.recsK {t e : Nat} {ls : List Lf} {cs : List Value} {d : DataW H} (ht : P.underlying t = some (.slice e)) (hl : leaves P 8 e = some ls) (hs : P.cellsOf e = ls.length) (h0 : 0 < ls.length) (h : TC enc P w base spare held t cs d) :
    ∃ A cap, ∃ rs : List (List Value), cs = [.slice A rs.length cap] ∧ (∀ r ∈ rs, okw ls r) ∧ Rd w [] A rs.flatten ∧ rs.length ≤ cap ∧ (d = .nil ∧ rs = [] ∨ ∃ ds sp, d = .slice ds sp ∧ ds.length = rs.length) := by
  obtain ⟨A, cap, rs, rfl, h2, h3, h4⟩ := h.recs ht hl hs h0
  exact ⟨A, cap, rs, rfl, h2, h3, TC.cap ht h, h4⟩
end
theorem okw_i {k : IntKind} {ls : List Lf} {cs : List Value} (h : okw (.i k :: ls) cs) : ∃ a cs', cs = .int k a :: cs' ∧ (Lit.int k a).wf = true ∧ okw ls cs' := by
  match cs, h with
  | .int _ a :: cs', ⟨⟨h1, w1⟩, h2⟩ => subst h1; exact ⟨a, cs', rfl, w1, h2⟩
theorem okw_b {ls : List Lf} {cs : List Value} (h : okw (.b :: ls) cs) : ∃ a cs', cs = .bool a :: cs' ∧ okw ls cs' := by
  match cs, h with
  | .bool a :: cs', ⟨h1, h2⟩ => exact ⟨a, cs', rfl, h2⟩
theorem okw_nil {cs : List Value} (h : okw [] cs) : cs = [] := by
  match cs, h with
  | [], _ => rfl
end V
end Go

/- How many values arguments hold; slices of records as they come in. -/
namespace Go.Proofs.Ytinmhhonpflojaa
open Go.V Go.ChangeShapes Go.WideShapes Go.ChangeAt
set_option linter.unusedVariables false
set_option linter.unusedSimpArgs false

theorem bulk_pos {H : Type} (d : DataW H) : 1 ≤ Rows.uptoBulk d := by
  cases d with
  | lit l => cases l <;> simp [Rows.uptoBulk]
  | _ => simp [Rows.uptoBulk]
theorem bulk_len {H : Type} : ∀ (ds : List (DataW H)), ds.length ≤ Rows.uptoBulkAll ds
  | [] => by simp
  | d :: ds => by
    have h1 := bulk_pos d
    have h2 := bulk_len ds
    simp only [Rows.uptoBulkAll, List.length_cons]
    omega
theorem bulk_get {H : Type} : ∀ {ds : List (DataW H)} {i : Nat} {d : DataW H}, ds[i]? = some d → Rows.uptoBulk d ≤ Rows.uptoBulkAll ds
  | d' :: ds, 0, d, h => by simp at h; subst h; simp [Rows.uptoBulkAll]
  | d' :: ds, i + 1, d, h => by
    have := bulk_get (ds := ds) (i := i) (by simpa using h)
    simp only [Rows.uptoBulkAll]
    omega
  | [], i, d, h => by simp at h
theorem bulk_sum {H α : Type} (f : α → Nat) : ∀ {ds : List (DataW H)} {l : List α}, l.length = ds.length → (∀ (i : Nat) (x : α) (d : DataW H), l[i]? = some x → ds[i]? = some d → f x ≤ Rows.uptoBulk d) → (l.map f).sum ≤ Rows.uptoBulkAll ds
  | [], [], _, _ => by simp
  | d :: ds, x :: l, h, k => by
    have h1 := k 0 x d rfl rfl
    have h2 := bulk_sum f (ds := ds) (l := l) (by simpa using h) (fun i x d hx hd => k (i + 1) x d (by simpa using hx) (by simpa using hd))
    simp only [List.map_cons, List.sum_cons, Rows.uptoBulkAll]
    omega
  | [], _ :: _, h, _ => by simp at h
  | _ :: _, [], h, _ => by simp at h
section
variable {P : Program} {H : Type} {enc : TypeId × Value → H} {w : World} {base : Nat} {spare : Nat → Bool} {held : Bool}
/-- plain records -/
theorem TC.list {α : Type} (f : α → List Value) (Q : α → Prop) {t e : Nat} {ls : List Lf} {cs : List Value} {d : DataW H} (ht : P.underlying t = some (.slice e)) (hl : leaves P 8 e = some ls) (hs : P.cellsOf e = ls.length) (h0 : 0 < ls.length)
    (hf : ∀ r, okw ls r → ∃ x, r = f x ∧ Q x) (h : TC enc P w base spare held t cs d) :
    ∃ A cap, ∃ l : List α, cs = [.slice A l.length cap] ∧ (∀ x ∈ l, Q x) ∧ Rd w [] A (l.flatMap f) ∧ l.length ≤ cap ∧ l.length ≤ Rows.uptoBulk d := by
  obtain ⟨A, cap, rs, rfl, h2, h3, h5, h4⟩ := TC.recsK ht hl hs h0 h
  obtain ⟨l, rfl, hl⟩ := map_of (f := f) (Q := Q) rs fun r hr => hf r (h2 r hr)
  refine ⟨A, cap, l, by rw [List.length_map], hl, by rw [List.flatMap_def]; exact h3, by simpa using h5, ?_⟩
  rcases h4 with ⟨e1, e2⟩ | ⟨ds, sp, rfl, e2⟩
  · have : l = [] := by simpa using e2
    subst this; simp
  · have := bulk_len ds
    simp only [Rows.uptoBulk]
    rw [List.length_map] at e2
    omega
/-- records of whatever -/
theorem TC.listN {α : Type} (f : α → List Value) (Q : α → DataW H → Prop) {t e m : Nat} {cs : List Value} {d : DataW H} (ht : P.underlying t = some (.slice e)) (hm : P.cellsOf e = m) (h0 : 0 < m)
    (hf : ∀ c di, TC enc P w base spare held e c di → ∃ x, c = f x ∧ Q x di) (h : TC enc P w base spare held t cs d) :
    ∃ A cap, ∃ l : List α, cs = [.slice A l.length cap] ∧ Rd w [] A (l.flatMap f) ∧ l.length ≤ cap ∧ l.length ≤ Rows.uptoBulk d ∧ (∀ x ∈ l, ∃ di, Q x di ∧ Rows.uptoBulk di ≤ Rows.uptoBulk d) ∧
      ∀ g : α → Nat, (∀ x di, Q x di → g x ≤ Rows.uptoBulk di) → (l.map g).sum ≤ Rows.uptoBulk d := by
  obtain ⟨A, len, cap, css, ds, rfl, h2, h3, h4, h5, h6, h7⟩ := TC.slice ht hm h0 h
  have hcap := TC.cap ht h
  obtain ⟨l, hl1, hl2⟩ := list_of (Q := fun i (x : α) => css[i]? = some (f x) ∧ ∃ di, ds[i]? = some di ∧ Q x di) len (fun i hi => by
    have hc := List.getElem?_eq_getElem (show i < css.length by omega)
    have hd := List.getElem?_eq_getElem (show i < ds.length by omega)
    obtain ⟨x, e1, e2⟩ := hf _ _ (h7 i _ _ hc hd)
    exact ⟨x, by rw [hc, e1], _, hd, e2⟩)
  have hcss : css = l.map f := by
    apply List.ext_getElem?
    intro i
    by_cases hi : i < len
    · have hx := List.getElem?_eq_getElem (show i < l.length by omega)
      rw [(hl2 i _ hx).1, List.getElem?_map, hx]; rfl
    · rw [List.getElem?_eq_none (by omega), List.getElem?_eq_none (by simp; omega)]
  have hb : ∀ di ∈ ds, Rows.uptoBulk di ≤ Rows.uptoBulk d := by
    intro di hdi
    rcases h6 with ⟨_, e2⟩ | ⟨sp, rfl⟩
    · have : ds = [] := List.eq_nil_of_length_eq_zero (by omega)
      subst this; cases hdi
    · obtain ⟨i, hi, rfl⟩ := List.mem_iff_getElem.1 hdi
      have := bulk_get (List.getElem?_eq_getElem hi)
      simp only [Rows.uptoBulk]
      omega
  refine ⟨A, cap, l, by rw [hl1], fun k v hv => ?_, by omega, ?_, fun x hx => ?_, fun g hg => ?_⟩
  · rw [List.flatMap_def, ← hcss] at hv
    obtain ⟨i, j, r, e1, e2, rfl⟩ := flatten_get css h4 k v hv
    obtain ⟨b, o, e3, e4⟩ := h5 i r e1 j v e2
    exact ⟨b, o, e3, by simp, e4⟩
  · rcases h6 with ⟨_, e2⟩ | ⟨sp, rfl⟩
    · have := bulk_pos d; omega
    · have := bulk_len ds
      simp only [Rows.uptoBulk]
      omega
  · obtain ⟨i, hi, rfl⟩ := List.mem_iff_getElem.1 hx
    obtain ⟨-, di, hdi, hq⟩ := hl2 i _ (List.getElem?_eq_getElem hi)
    exact ⟨di, hq, hb _ (List.mem_of_getElem? hdi)⟩
  · rcases h6 with ⟨_, e2⟩ | ⟨sp, rfl⟩
    · have : l = [] := List.eq_nil_of_length_eq_zero (by omega)
      subst this; simp
    · have := bulk_sum g (ds := ds) (l := l) (by omega) (fun i x di hx hdi => by
        obtain ⟨-, di', hdi', hq⟩ := hl2 i x hx
        rw [hdi] at hdi'; cases hdi'
        exact hg x di hq)
      simp only [Rows.uptoBulk]
      omega
end
end Go.Proofs.Ytinmhhonpflojaa

/- Slices of whole numbers as they come in. -/
namespace Go.Proofs.Ytinmhhonpflojaa
open Go.V Go.ChangeShapes Go.WideShapes Go.ChangeAt
set_option linter.unusedVariables false
set_option linter.unusedSimpArgs false

theorem wfi64 {n : Int} (h : (Lit.int .i64 n).wf = true) : -9223372036854775808 ≤ n ∧ n ≤ 9223372036854775807 := by
  simpa [Lit.wf, IntKind.min, IntKind.max, IntKind.signed, IntKind.bits] using h
theorem read_ints {H : Type} {enc : TypeId × Value → H} {W : World} {base : Nat} {spare : Nat → Bool} {held : Bool} {a0 : Option Addr} {len cap : Nat} {d : DataW H} {p : List MemPlace}
    (h : DataW.Trod enc Try.prog W base spare held 100 (.slice a0 len cap) d p) : ∃ zs : List Int, Rd W [] a0 (ints .i64 zs) ∧ len = zs.length ∧ len ≤ Rows.uptoBulk d ∧ ∀ n ∈ zs, (Lit.int .i64 n).wf = true := by
  obtain ⟨zs, h1, h2, h3, h4⟩ := open_slice_ints Try.underlying100 Try.underlying3 (by kernel_rfl) h
  refine ⟨zs, h1, h2, ?_, h3⟩
  rcases h4 with rfl | ⟨es, sp, rfl, rfl⟩
  · omega
  · have := bulk_len es
    simp only [Rows.uptoBulk]
    omega
end Go.Proofs.Ytinmhhonpflojaa

/- FeedFinds: the law's walk. -/
namespace Go.Proofs.Ytinmhhonpflojaa
open Go.V
set_option linter.unusedVariables false
set_option linter.unusedSimpArgs false

theorem lap_form {z : L2} {x : Dt} (hx : x.can) : lap z x = (if x.k = 1 ∧ x.d = 1 then dn x z.1 else z.1, if x.k = 1 ∧ x.d = 2 then dn x z.2 else z.2) := by
  obtain ⟨-, hd, -, hk⟩ := hx
  have hk : x.k = 1 ∨ x.k = 2 := by rcases hk with hk | hk; exact .inl hk.1; exact .inr hk.1
  unfold lap
  rcases hk with hk | hk <;> rcases hd with hd | hd <;> simp [hk, hd]
structure FoS where
  i : Nat
  v1 : Value
  v2 : Value
  k1 : Hp
  k2 : Hp
abbrev PcB (b : Nat) (q : Int) (v1 v2 : Value) : Nat × Ch := (b, .cells (pcells q v1 v2) 40)
set_option maxRecDepth 20000 in
set_option maxHeartbeats 2000000 in
theorem fold_ok (w : World) (A : Option Addr) (cap n : Nat) (dt : List Dt) (hA : Rd w [] A (drows dt)) (hd : Nmd dt) (hn : n ≤ dt.length) :
    Does Try.prog 38 [.slice A dt.length cap, .int .u64 n] [] w (NewPic ⟨n, (lfold (dt.take n)).1, (lfold (dt.take n)).2⟩) := by
  have hlen := hd.len
  refine Does.less (Does.of (n := 26) Try.func38 rfl rfl rfl rfl ?_)
  refine .seq ((.region (.nw .alloc fun b4 => (.nil ?_))))
  refine .seq ((.region (.nw .alloc fun b5 => (.nil ?_))))
  refine .seq (.seq ((.region (.v (.assign rfl) (.nil ?_)))))
  refine .block (.loop (X := FoS) (fun x => [(0, .slice A dt.length cap), (1, .int .u64 n), (4, .pointer (some ⟨b4, 0, none⟩)), (5, .pointer (some ⟨b5, 0, none⟩)), (6, .int .i64 x.i)]) (fun x => PcB b5 x.i x.v1 x.v2 :: PcB b4 0 (.slice none 0 0) (.slice none 0 0) :: (x.k1 ++ x.k2)) (fun x => x.i ≤ n ∧ LOwn x.v1 (lfold (dt.take x.i)).1 x.k1 ∧ LOwn x.v2 (lfold (dt.take x.i)).2 x.k2) (fun x => n - x.i) ⟨0, .slice none 0 0, .slice none 0 0, [], []⟩
    ⟨Nat.zero_le _, OwnS.nil _ _, OwnS.nil _ _⟩ (.cons rfl (.cons rfl (.cons rfl (.cons rfl (.cons rfl (.nil _)))))) (fun _ s => s.take) ?_)
  rintro ⟨i, v1, v2, k1, k2⟩ ⟨hi, o1, o2⟩
  dsimp only at hi o1 o2 ⊢
  refine .seq (.seq ((.region (.v (.move rfl) (.v (.move rfl) (.v (.len rfl) (.v (.lss rfl rfl) (.v (.move rfl) (.and (b2 := decide ((i : Int) < n)) 11 15 4 4 rfl rfl (fun g1 => .v (.move rfl) (.v (.convE (i : Int) rfl (wrap_u64_in (by omega))) (.v (.move rfl) (.v (.lss rfl rfl) (.nil ⟨rfl, rfl, rfl, rfl⟩))))) (.nil ?_))))))))))
  refine .cond rfl (fun h1 => .skip ?_) (fun h1 => .exit ?_)
  · rw [Bool.and_eq_true] at h1
    have hil : i < dt.length := by have := of_decide_eq_true h1.1; omega
    have hin : i < n := by have := of_decide_eq_true h1.2; omega
    obtain ⟨bd, od, rfl, hat⟩ := Rd.recs Dt.cells 6 (fun _ => rfl) hA (by omega) (by omega)
    have hdt := fun hs => recAt Dt.cells 6 (fun _ => rfl) (z := (i : Int)) (hat hs) hil
    have htk := Tk2.fold (l := dt.take i) Tk2.zero fun x hx => hd.can x (List.mem_of_mem_take hx)
    have hsu := lfold_succ hil
    have hcx := hd.can _ (List.getElem_mem hil)
    have hsx := hd.num i hil
    generalize dt[i] = x at hdt hsu hcx hsx
    change Tk2 (lfold (dt.take i)) at htk
    rw [lap_form hcx] at hsu
    generalize hz' : lfold (dt.take (i + 1)) = z' at hsu
    generalize lfold (dt.take i) = z at o1 o2 htk hsu
    obtain ⟨bs, ss⟩ := z
    dsimp only at o1 o2 hsu
    have hln := htk.len
    dsimp only at hln
    obtain ⟨A1, a1, rfl⟩ := lown_sl o1
    obtain ⟨A2, a2, rfl⟩ := lown_sl o2
    refine .seq (.block ((.drawQ 6 [0, 1, 2, 3, 4, 5, 6] [PcB b5 i (.slice A1 bs.length a1) (.slice A2 ss.length a2)] (by intro y hy; simp at hy; subst hy; simp) (by kernel_rfl) (by kernel_rfl) ?_)))
    refine .v (fun _ f => .loadA (vs := pcells i (.slice A1 bs.length a1) (.slice A2 ss.length a2)) rfl (.whole (hb := .sub f)) rfl) (.v (fun _ f => .move rfl) (.v (fun _ f => .move rfl) (.v (fun _ f => .indexAddr rfl rfl (by omega) (by omega)) (.v (fun hs' f => .loadA (vs := x.cells) rfl (hdt hs') rfl) ?_))))
    refine .ef (.callT (k1 ++ k2) rfl rfl fun w s => Done_ok w x hcx i bs ss _ _ k1 k2 o1 o2 htk.w1 htk.w2 (by omega)) (fun v hs' ⟨h, _, e⟩ f => by subst e; intro y hy; simp at hy; subst hy; simp) ?_
    rintro _ _ ⟨_, ⟨u1, u2, j1, j2, rfl, rfl, y1, y2⟩, rfl⟩
    obtain ⟨E1, e1, rfl⟩ := lown_sl y1
    obtain ⟨E2, e2, rfl⟩ := lown_sl y2
    refine .st (.sw rfl rfl) (.nil ?_)
    refine .region (.v (.move rfl) (.v (.addi rfl rfl (by omega)) (.v (.assign rfl) (.nil ?_))))
    refine ⟨⟨i + 1, _, _, j1, j2⟩, ⟨hin, by rw [hz', hsu]; exact y1, by rw [hz', hsu]; exact y2⟩, by show n - (i + 1) < _; omega, .cons rfl (.cons rfl (.cons rfl (.cons rfl (.cons rfl (.nil _))))), fun _ s => ?_⟩
    rw [show x.s = ((i + 1 : Nat) : Int) by rw [hsx]; rfl] at s
    exact s.take
  · have hil : i = n := by
      by_cases hh : i < n
      · rw [decide_eq_true (show (i : Int) < dt.length by omega), decide_eq_true (show (i : Int) < n by omega)] at h1; cases h1
      · omega
    subst hil
    obtain ⟨A1, a1, rfl⟩ := lown_sl o1
    obtain ⟨A2, a2, rfl⟩ := lown_sl o2
    refine .seq ((.region (.v (.loadA (vs := pcells i (.slice A1 _ a1) (.slice A2 _ a2)) rfl .whole rfl) (.st (.sw rfl rfl) (.nil ?_)))))
    exact .ret ⟨[_], ⟨⟨_, rfl, .inr ⟨3, _, inferInstance, rfl, rfl, .whole⟩⟩, trivial⟩, k2 ++ k1, fun _ s => s.take, A1, A2, a1, a2, k1, k2, rfl, rfl, o1, o2⟩
structure FNS where
  i : Nat
  S : Sb
  h : Hp
theorem PcF.rd {dt : List Dt} {p : Pc} {m : Nat} (h : PcF dt p m) : True := trivial
set_option maxRecDepth 20000 in
set_option maxHeartbeats 4000000 in
theorem FeedFinds_ok (w : World) (d hold cc cm : Int) (A : Option Addr) (len cap : Nat) (l : List Cm) (Ap : Option Addr) (capp : Nat) (pk : List Int) (hl : len = l.length) (hA : Rd w [] A (crows l)) (hp : Rd w [] Ap (ints .i64 pk)) (hb : len ≤ 600000) (hbp : pk.length ≤ 2000000) (hw : ∀ c ∈ l, c.wf) :
    Is Try.prog 10 [.int .i64 d, .int .i64 hold, .agg ⟨[.int .i64 cc, .int .i64 cm]⟩, .slice A len cap, .slice Ap pk.length capp] w (.bool true) := by
  refine Does.pure (Does.of (n := 169) Try.func10 rfl rfl rfl rfl ?_)
  refine .seq ((.region (.nw (.box rfl rfl) fun b7 => (.v (.assign rfl) (.nil ?_)))))
  refine .seq (.seq ((.region (.pc rfl rfl (fun w s => lives_ok w) (.v (.not rfl) (.nil ?_))))))
  refine .cond rfl (fun h => absurd h (by decide)) (fun _ => .skip ?_)
  refine .seq ((.region (.v (.move rfl) (.v (.loadA (vs := [.int .i64 cc, .int .i64 cm]) rfl .whole rfl) (.v (.move rfl) ?_)))))
  by_cases hok : (1 ≤ d ∧ d ≤ 64) ∧ Cfg cc cm
  case neg =>
    refine .pc rfl rfl (fun w s => shown_no w d cc cm A len cap hok) ?_
    refine .v (.move rfl) (.v (.extract rfl rfl) (.v (.extract rfl rfl) (.v (.assign rfl) (.v (.assign rfl) (.nil ?_)))))
    refine .seq (.seq ((.region (.v (.move rfl) (.v (.not rfl) (.v (.move rfl) (.or (b2 := true) 30 32 2 2 rfl rfl (fun g2 => .v (.move rfl) (.v (.eql_ptr_nil rfl rfl) (.nil ⟨rfl, rfl, rfl, rfl⟩))) (.nil ?_))))))))
    refine .cond rfl (fun h3 => ?_) (fun h3 => absurd h3 (by simp))
    refine .seq ((.region (.v (.move rfl) (.v (.assign rfl) (.nil ?_)))))
    exact .ret ⟨[_], ⟨rfl, trivial⟩, rfl⟩
  obtain ⟨hone, hc⟩ := hok
  obtain ⟨dp, rfl⟩ : ∃ dp : Nat, d = dp := ⟨d.toNat, by omega⟩
  refine .ef (.call0 rfl rfl fun w' s => shown_yes w' dp cc cm A len cap l hl (hA.keep0 s) hb hw (by omega) hc) ?_
  rintro _ _ ⟨_, ⟨s1, p1, c1, vD, hD, ps, vP, hP, rfl, rfl, o1, r1, n1⟩, rfl⟩
  refine .v (.move rfl) (.v (.extract rfl rfl) (.v (.extract rfl rfl) (.v (.assign rfl) (.v (.assign rfl) (.nil ?_)))))
  refine .seq (.seq ((.region (.v (.move rfl) (.v (.not rfl) (.v (.move rfl) (.or (b2 := false) 30 32 2 2 rfl rfl (fun g2 => .v (.move rfl) (.v (.eql_ptr_nil rfl rfl) (.nil ⟨rfl, rfl, rfl, rfl⟩))) (.nil ?_))))))))
  refine .cond rfl (fun h => absurd h (by simp)) (fun _ => .skip ?_)
  refine .keep (Swf s1 p1 c1 vD vP hD hP ps) ?_
  obtain ⟨oD, oP, oO⟩ := o1
  obtain ⟨AD, kD, rfl⟩ := OwnS.slice oD
  obtain ⟨AP, kP, rfl⟩ := OwnS.slice oP
  -- the run's facts
  obtain ⟨hR, -, -⟩ := runF (d := dp) (cm := cm) hc hw (by omega) l.length (Nat.le_refl _)
  rw [List.take_length] at hR
  obtain ⟨-, hcnt, -⟩ := run_facts dp cc cm l l.length (Nat.le_refl _)
  rw [List.take_length, ← r1, List.length_map] at hcnt
  obtain ⟨-, hnum, hcan, -, hpic, hmono, hlast⟩ := hR
  have hq := (runF (d := dp) (cm := cm) hc hw (by omega) l.length (Nat.le_refl _)).1.q
  rw [List.take_length] at hq
  generalize (Sh.run dp cc cm l).dt = dt at oD n1 hnum hcan hpic hq
  have hPF : ∀ i, (h : i < ps.length) → ∃ m, PcF dt ps[i].pc m := fun i h => by
    obtain ⟨m, a1, a2, a3, a4, a5⟩ := hpic i (by rw [← r1, List.length_map]; exact h)
    have e : (Sh.run dp cc cm l).pcs[i]'(by rw [← r1, List.length_map]; exact h) = ps[i].pc := by simp only [← r1, List.getElem_map]
    rw [e] at a2 a3 a4 a5
    exact ⟨m, a1, a2, a3, a4, a5⟩
  have hLa : ∀ i, (h : i < ps.length) → i + 1 = ps.length → ps[i].pc.seq = dt.length := fun i h e => by
    obtain ⟨l', hl'⟩ := hlast
    rw [← r1] at hl'
    have hlen : l'.length = i := by have := congrArg List.length hl'; rw [List.length_map, List.length_append, List.length_singleton] at this; omega
    have : (ps.map (·.pc))[i]'(by rw [List.length_map]; exact h) = pcB (Sh.run dp cc cm l).q dp (Sh.run dp cc cm l).B := by
      simp only [hl']
      rw [List.getElem_append_right (by omega)]
      simp [hlen]
    rw [List.getElem_map] at this
    rw [this]
    exact hq
  have hNm : Nmd dt := ⟨hnum, hcan, by omega⟩
  have hpl : 1 ≤ ps.length ∧ ps.length ≤ 600001 := by omega
  clear hpic hmono hlast hq r1
  refine .seq ((.region (.v (.move rfl) ?_)))
  by_cases hh : 0 ≤ hold ∧ hold ≤ 1024
  case neg =>
    refine .pc rfl rfl (fun w s => NewSub_no w hh) ?_
    refine .v (.move rfl) (.v (.extract rfl rfl) (.v (.extract rfl rfl) (.v (.assign rfl) (.v (.assign rfl) (.nil ?_)))))
    refine .seq (.seq ((.region (.v (.move rfl) (.v (.nei rfl rfl) (.v (.move rfl) (.or (b2 := true) 42 44 2 2 rfl rfl (fun g2 => .v (.move rfl) (.v (.eql_ptr_nil rfl rfl) (.nil ⟨rfl, rfl, rfl, rfl⟩))) (.nil ?_))))))))
    refine .cond rfl (fun _ => ?_) (fun h => absurd h (by decide))
    refine .seq ((.region (.v (.move rfl) (.v (.lss rfl rfl) (.v (.move rfl) (.or (b2 := decide (1024 < hold)) 48 50 2 2 rfl rfl (fun g3 => .v (.move rfl) (.v (.gtr rfl rfl) (.nil ⟨rfl, rfl, rfl, rfl⟩))) (.v (.assign rfl) (.nil ?_))))))))
    refine .ret ⟨[_], ⟨rfl, trivial⟩, ?_⟩
    show Value.bool _ = _
    congr 1
    rw [Bool.or_eq_true]
    by_cases h0 : hold < 0
    · exact .inl (decide_eq_true h0)
    · exact .inr (decide_eq_true (by omega))
  refine .ef (.call0 rfl rfl fun w s => NewSub_yes w hh) ?_
  rintro _ _ ⟨ha0, ⟨ba, ma, rfl, hSa⟩, rfl⟩
  refine .v (.move rfl) (.v (.extract rfl rfl) (.v (.extract rfl rfl) (.v (.assign rfl) (.v (.assign rfl) (.nil ?_)))))
  refine .seq (.seq ((.region (.v (.move rfl) (.v (.nei rfl rfl) (.v (.move rfl) (.or (b2 := false) 42 44 2 2 rfl rfl (fun g2 => .v (.move rfl) (.v (.eql_ptr_nil rfl rfl) (.nil ⟨rfl, rfl, rfl, rfl⟩))) (.nil ?_))))))))
  refine .cond rfl (fun h => absurd h (by decide)) (fun _ => .skip ?_)
  refine .seq (.seq ((.region (.v (.assign rfl) (.nil ?_)))))
  obtain ⟨t1, z1, q1, rfl, -, rfl, -, -, -⟩ := OwnS.some_ oP (by omega)
  refine .block (.loop (X := FNS) (fun x => [(4, .slice Ap pk.length capp), (11, .pointer (some ⟨s1, 0, none⟩)), (13, .pointer (some ⟨ba, 0, none⟩)), (15, .int .i64 x.i)]) (fun x => Swf s1 p1 c1 (.slice AD dt.length kD) (.slice (some ⟨t1, z1, none⟩) ps.length kP) hD [(t1, Ch.cells q1 40)] ps ++ x.h) (fun x => x.i ≤ pk.length ∧ SubH ba ma x.S x.h ∧ Fnd dt x.S) (fun x => pk.length - x.i) ⟨0, Sb.new hold, ha0⟩
    ⟨Nat.zero_le _, hSa, Fnd.new dt hh.2⟩ (.cons rfl (.cons rfl (.cons rfl (.cons rfl (.nil _))))) (fun _ s => s.take) ?_)
  rintro ⟨i, S, h⟩ ⟨hi, hS, hF⟩
  dsimp only at hi hS hF ⊢
  refine .seq (.seq ((.region (.v (.move rfl) (.v (.move rfl) (.v (.len rfl) (.v (.lss rfl rfl) (.nil ?_))))))))
  refine .cond_dec rfl (fun h4 => .skip ?_) (fun h4 => .exit ?_)
  · have hil : i < pk.length := by omega
    obtain ⟨bk, ok, rfl, hat⟩ : ∃ b o, Ap = some ⟨b, o, none⟩ ∧ ∀ hs, At w [] hs ⟨b, o + (i : Int).toNat, none⟩ [.int .i64 pk[i]] := by
      obtain ⟨b, o, e, _⟩ := hp.base (by simp [ints]; omega)
      subst e
      exact ⟨b, o, rfl, fun hs => Rd.cell hp (i := i) (by simp [ints, List.getElem?_eq_getElem hil])⟩
    generalize pk[i] = k at hat
    have hN : (0 : Int) < (dt.length : Int) + ps.length := by omega
    have hr : (k.tmod ((dt.length : Int) + ps.length)).natAbs < dt.length + ps.length := by
      rw [Int.natAbs_tmod]
      have : ((dt.length : Int) + ps.length).natAbs = dt.length + ps.length := by omega
      rw [this]
      exact Nat.mod_lt _ (by omega)
    have hdl := hNm.len
    refine .seq (.block (.seq ((.drawK [ShB s1 p1 c1 (.slice AD dt.length kD) (.slice (some ⟨t1, z1, none⟩) ps.length kP)] (by intro y hy; simp at hy; subst hy; simp) (by kernel_rfl) (by kernel_rfl) ?_))))
    refine .v (fun _ f => .move rfl) (.v (fun _ f => .move rfl) (.v (fun _ f => .indexAddr1 rfl rfl (by omega) (by omega)) (.v (fun hs' f => .load (v := .int .i64 k) rfl (hat hs')) (.v (fun _ f => .move rfl) (.v (fun _ f => .nilCheck rfl) (.v (fun _ f => .fieldAddr rfl) (.v (fun _ f => .load (v := .slice AD dt.length kD) rfl (.one (hb := .sub f) rfl)) (.v (fun _ f => .len rfl) (.v (fun _ f => .move rfl) (.v (fun _ f => .nilCheck rfl) (.v (fun _ f => .fieldAddr rfl) (.v (fun _ f => .load (v := .slice (some ⟨t1, z1, none⟩) ps.length kP) rfl (.one (hb := .sub f) rfl)) (.v (fun _ f => .len rfl) (.v (fun _ f => .addi rfl rfl (by omega)) (.v (fun _ f => .rem rfl rfl (by omega)) (.v (fun _ f => .assign rfl) (.nil ?_)))))))))))))))))
    generalize k.tmod ((dt.length : Int) + ps.length) = r at hr
    refine .mid (X := Nat) (fun k => [(4, .slice (some ⟨bk, ok, none⟩) pk.length capp), (11, .pointer (some ⟨s1, 0, none⟩)), (13, .pointer (some ⟨ba, 0, none⟩)), (15, .int .i64 i), (16, .int .i64 k)]) (fun _ => Swf s1 p1 c1 (.slice AD dt.length kD) (.slice (some ⟨t1, z1, none⟩) ps.length kP) hD [(t1, Ch.cells q1 40)] ps ++ h) (fun k => k < dt.length + ps.length) (.seq ((.region (.v (.move rfl) (.v (.lss rfl rfl) (.nil ?_)))))) ?_
    · refine .cond_dec rfl (fun h5 => ?_) (fun h5 => .skip ?_)
      · refine (.drawK [ShB s1 p1 c1 (.slice AD dt.length kD) (.slice (some ⟨t1, z1, none⟩) ps.length kP)] (by intro y hy; simp at hy; subst hy; simp) (by kernel_rfl) (by kernel_rfl) ?_)
        refine .v (fun _ f => .move rfl) (.v (fun _ f => .move rfl) (.v (fun _ f => .nilCheck rfl) (.v (fun _ f => .fieldAddr rfl) (.v (fun _ f => .load (v := .slice AD dt.length kD) rfl (.one (hb := .sub f) rfl)) (.v (fun _ f => .len rfl) (.v (fun _ f => .addi rfl rfl (by omega)) (.v (fun _ f => .move rfl) (.v (fun _ f => .nilCheck rfl) (.v (fun _ f => .fieldAddr rfl) (.v (fun _ f => .load (v := .slice (some ⟨t1, z1, none⟩) ps.length kP) rfl (.one (hb := .sub f) rfl)) (.v (fun _ f => .len rfl) (.v (fun _ f => .addi rfl rfl (by omega)) (.v (fun _ f => .assign rfl) (.nil ?_))))))))))))))
        exact ⟨(r + dt.length + ps.length).toNat, by omega, .cons rfl (.cons rfl (.cons rfl (.cons rfl (.cons (congrArg some (by congr 1; omega)) (.nil _))))), fun _ s => s⟩
      · exact ⟨r.toNat, by omega, .cons rfl (.cons rfl (.cons rfl (.cons rfl (.cons (congrArg some (by congr 1; omega)) (.nil _))))), fun _ s => s⟩
    clear hr r hat k
    intro k hk
    have hz := hF.size hcan
    refine .mid (X := Sb × Hp) (fun _ => [(4, .slice (some ⟨bk, ok, none⟩) pk.length capp), (11, .pointer (some ⟨s1, 0, none⟩)), (13, .pointer (some ⟨ba, 0, none⟩)), (15, .int .i64 i)]) (fun z => Swf s1 p1 c1 (.slice AD dt.length kD) (.slice (some ⟨t1, z1, none⟩) ps.length kP) hD [(t1, Ch.cells q1 40)] ps ++ z.2) (fun z => SubH ba ma z.1 z.2 ∧ Fnd dt z.1) (.seq ((.region (.v (.move rfl) (.v (.move rfl) (.v (.nilCheck rfl) (.v (.fieldAddr rfl) (.v (.load (v := .slice AD dt.length kD) rfl (.one rfl)) (.v (.len rfl) (.v (.lss rfl rfl) (.nil ?_))))))))))) ?_
    · refine .cond_dec rfl (fun h6 => ?_) (fun h6 => ?_)
      · have hkl : k < dt.length := by omega
        obtain ⟨t2, z2, q2, rfl, -, rfl, -, -, -⟩ := OwnS.some_ oD (by omega)
        have hd2 := fun hs' hsub => recAt Dt.cells 6 (fun _ => rfl) (z := (k : Int)) (OwnS.at0 (w0 := w) (own := []) (hs := hs') oD hsub) hkl
        have hFt := hF.take hNm (List.getElem_mem hkl)
        have hT := fun w' => take_ok w' ba ma S dt[k] h hS (by omega)
        generalize dt[k] = x at hd2 hFt hT
        refine .region (.v (.move rfl) (.v (.move rfl) (.v (.nilCheck rfl) (.v (.fieldAddr rfl) (.v (.load (v := .slice (some ⟨t2, z2, none⟩) dt.length kD) rfl (.one rfl)) (.v (.move rfl) (.v (.indexAddr rfl rfl (by omega) (by omega)) (.v (.loadA (vs := x.cells) rfl (hd2 _ (fun y hy => by simp at hy; subst hy; simp)) rfl) ?_))))))))
        refine .ef (.callT h rfl rfl fun w s => hT w) ?_
        rintro _ _ ⟨h', ⟨rfl, hS'⟩, rfl⟩
        refine .nil ?_
        exact ⟨((S.take x).1, h'), ⟨hS', hFt⟩, .cons rfl (.cons rfl (.cons rfl (.cons rfl (.nil _)))), fun _ s => s.take⟩
      · have hkl : k - dt.length < ps.length := by omega
        obtain ⟨m, hm⟩ := hPF _ hkl
        have hx := fun hs' hsub => recAt PicD.cells 3 (fun _ => rfl) (z := (k : Int) - dt.length) (OwnS.at0 (w0 := w) (own := []) (hs := hs') oP hsub) hkl (by omega)
        have hxo := oO _ (List.getElem_mem hkl)
        have hxs : ps[k - dt.length].hB ++ ps[k - dt.length].hS ⊆ picH ps := fun y hy => List.mem_flatMap.2 ⟨_, List.getElem_mem hkl, hy⟩
        have hxl := hm.len hcan
        generalize ps[k - dt.length] = x at hx hxo hxs hm hxl
        obtain ⟨⟨pq, pb, pS⟩, vB1, vS1, hB1, hS1'⟩ := x
        dsimp only at hxs
        dsimp only at hxl
        obtain ⟨mle, mseq, mlv, mf1, mf2⟩ := hm
        dsimp only at mseq mlv mf1 mf2
        subst mseq
        obtain ⟨x1, x2⟩ := hxo
        dsimp only at x1 x2
        obtain ⟨G1, e1, rfl⟩ := lown_sl x1
        obtain ⟨G2, e2, rfl⟩ := lown_sl x2
        have hcx : (PicD.mk ⟨(m : Int), pb, pS⟩ (.slice G1 pb.length e1) (.slice G2 pS.length e2) hB1 hS1').cells = (pcells (m : Int) (.slice G1 pb.length e1) (.slice G2 pS.length e2)) := rfl
        rw [hcx] at hx
        have hFt := hF.recover hNm mlv mf1 mf2 mle
        have hT := fun w' r1 r2 => Recover_ok w' ba ma S hF.ok h hS m pb pS G1 G2 e1 e2 r1 r2 (by omega)
        refine (.drawK [ShB s1 p1 c1 (.slice AD dt.length kD) (.slice (some ⟨t1, z1, none⟩) ps.length kP), (t1, Ch.cells q1 40)] (by intro y hy; simp at hy; rcases hy with rfl | rfl <;> simp) (by kernel_rfl) (by kernel_rfl) ?_)
        refine .v (fun _ f => .move rfl) (.v (fun _ f => .move rfl) (.v (fun _ f => .nilCheck rfl) (.v (fun _ f => .fieldAddr rfl) (.v (fun _ f => .load (v := .slice (some ⟨t1, z1, none⟩) ps.length kP) rfl (.one (hb := .sub f) rfl)) (.v (fun _ f => .move rfl) (.v (fun _ f => .move rfl) (.v (fun _ f => .nilCheck rfl) (.v (fun _ f => .fieldAddr rfl) (.v (fun _ f => .load (v := .slice AD dt.length kD) rfl (.one (hb := .sub f) rfl)) (.v (fun _ f => .len rfl) (.v (fun _ f => .subi rfl rfl (by omega)) (.v (fun _ f => .indexAddr rfl rfl (by omega) (by omega)) (.v (fun hs' f => .loadA (vs := pcells (m : Int) (.slice G1 pb.length e1) (.slice G2 pS.length e2)) rfl (hx hs' (fun y hy => f (by simp at hy; subst hy; simp))) rfl) ?_)))))))))))))
        refine .ef (.callT h rfl rfl fun w s => hT w (OwnS.rd x1 s (fun y hy => by simp [hxs (List.mem_append_left _ hy)]) (fun b hb => Sat.apart (a := picH ps) (b := h) s b (List.map_subset _ hxs (by simp only [List.map_append, List.mem_append]; exact .inl hb)))) (OwnS.rd x2 s (fun y hy => by simp [hxs (List.mem_append_right _ hy)]) (fun b hb => Sat.apart (a := picH ps) (b := h) s b (List.map_subset _ hxs (by simp only [List.map_append, List.mem_append]; exact .inr hb))))) (fun v hs' ⟨h, _, e⟩ f => by subst e; intro y hy; simp at hy; rcases hy with rfl | rfl <;> simp) ?_
        rintro _ _ ⟨h', ⟨rfl, hS'⟩, rfl⟩
        refine .nil ?_
        exact ⟨((S.rec_ m pb pS).1, h'), ⟨hS', hFt⟩, .cons rfl (.cons rfl (.cons rfl (.cons rfl (.nil _)))), fun _ s => s.take⟩
    · clear hS hF hz
      rintro ⟨S, h⟩ ⟨hS, hF⟩
      dsimp only at hS hF ⊢
      have hz := hF.size hcan
      obtain ⟨n, n1', n2, n3⟩ := hF.lv
      have htk := (Tk2.fold (l := dt.take n) Tk2.zero fun x hx => hcan x (List.mem_of_mem_take hx)).len
      have hfo := fun w' (r : Rd w' [] AD (drows dt)) => fold_ok w' AD kD n dt r hNm n1'
      unfold lfold at n3 hfo
      generalize (dt.take n).foldl lap ([], []) = z at n3 htk hfo
      obtain ⟨zb, zs⟩ := z
      dsimp only at htk hfo
      refine .seq ((.region (.v (.move rfl) ?_)))
      refine .ef (.call0 rfl rfl fun w s => PictureF (p := ⟨(n : Int), zb, zs⟩) n2 n3 s hS (fun y hy => by simp [hy]) (by omega)) ?_
      rintro _ _ ⟨_, ⟨E1, E2, f1, f2, u1, u2, rfl, rfl, y1, y2⟩, rfl⟩
      dsimp only at y1 y2 ⊢
      refine .nw .alloc fun b17 => (.st (.sw rfl rfl) (.nil ?_))
      refine .seq ((.drawK [ShB s1 p1 c1 (.slice AD dt.length kD) (.slice (some ⟨t1, z1, none⟩) ps.length kP), PcB b17 n (.slice E1 zb.length f1) (.slice E2 zs.length f2)] (by intro y hy; simp at hy; rcases hy with rfl | rfl <;> simp) (by kernel_rfl) (by kernel_rfl) ?_))
      refine .v (fun _ f => .loadA (vs := pcells n (.slice E1 zb.length f1) (.slice E2 zs.length f2)) rfl (.whole (hb := .sub f)) rfl) (.v (fun _ f => .move rfl) (.v (fun _ f => .nilCheck rfl) (.v (fun _ f => .fieldAddr rfl) (.v (fun _ f => .load (v := .slice AD dt.length kD) rfl (.one (hb := .sub f) rfl)) (.v (fun _ f => .fieldAddr rfl) (.v (fun _ f => .load (v := .int .u64 n) rfl (.one (hb := .sub f) rfl)) ?_))))))
      refine .cl rfl rfl (fun w s => hfo w (OwnS.rd oD s (no := []) (fun y hy => by simp [hy]) (by simp))) ?_
      rintro _ _ ⟨H1, H2, g1, g2, u3, u4, rfl, rfl, y3, y4⟩
      dsimp only at y3 y4 ⊢
      refine .pc (v := .bool true) rfl rfl (fun w s => samePicture_ok w E1 E2 H1 H2 f1 f2 g1 g2 ⟨(n : Int), zb, zs⟩ (OwnS.rd y1 s (no := []) (fun y hy => by simp [hy]) (by simp)) (OwnS.rd y2 s (no := []) (fun y hy => by simp [hy]) (by simp)) (OwnS.rd y3 s (no := []) (fun y hy => by simp [hy]) (by simp)) (OwnS.rd y4 s (no := []) (fun y hy => by simp [hy]) (by simp)) (by dsimp only; omega)) ?_
      refine .v (fun _ f => .not rfl) (.v (fun _ f => .move rfl) (.or (b2 := decide ((dt.length : Int) < n)) 132 141 9 9 rfl rfl (fun g4 => .v (fun _ f => .fieldAddr rfl) (.v (fun _ f => .load (v := .int .u64 n) rfl (.one (hb := .sub f) rfl)) (.v (fun _ f => .move rfl) (.v (fun _ f => .nilCheck rfl) (.v (fun _ f => .fieldAddr rfl) (.v (fun _ f => .load (v := .slice AD dt.length kD) rfl (.one (hb := .sub f) rfl)) (.v (fun _ f => .len rfl) (.v (fun _ f => .convE (dt.length : Int) rfl (wrap_u64_in (by omega))) (.v (fun _ f => .gtr rfl rfl) (.nil ⟨rfl, rfl, rfl, rfl⟩)))))))))) (.nil ?_)))
      refine .cond rfl (fun h => absurd (of_decide_eq_true (by simpa using h)) (show ¬ (dt.length : Int) < n by omega)) (fun _ => .skip ?_)
      refine .region (.v (.move rfl) (.v (.addi rfl rfl (by omega)) (.v (.assign rfl) (.nil ?_))))
      exact ⟨⟨i + 1, S, h⟩, ⟨by show i + 1 ≤ _; omega, hS, hF⟩, by show pk.length - (i + 1) < _; omega, .cons rfl (.cons rfl (.cons rfl (.cons rfl (.nil _)))), fun _ s => s.take⟩
  · have hkl : ps.length - 1 < ps.length := by omega
    obtain ⟨m, hm⟩ := hPF _ hkl
    have hms : ps[ps.length - 1].pc.seq = dt.length := hLa _ hkl (by omega)
    have hx := fun hs' hsub => recAt PicD.cells 3 (fun _ => rfl) (z := (ps.length : Int) - 1) (OwnS.at0 (w0 := w) (own := []) (hs := hs') oP hsub) hkl (by omega)
    have hxo := oO _ (List.getElem_mem hkl)
    have hxs : ps[ps.length - 1].hB ++ ps[ps.length - 1].hS ⊆ picH ps := fun y hy => List.mem_flatMap.2 ⟨_, List.getElem_mem hkl, hy⟩
    have hxl := hm.len hcan
    generalize ps[ps.length - 1] = x at hx hxo hxs hm hxl hms
    obtain ⟨⟨pq, pb, pS⟩, vB1, vS1, hB1, hS1'⟩ := x
    dsimp only at hxs
    dsimp only at hxl
    obtain ⟨mle, mseq, mlv, mf1, mf2⟩ := hm
    dsimp only at mseq mlv mf1 mf2 hms
    have hmd : m = dt.length := by omega
    subst hmd
    subst mseq
    clear hms
    rw [List.take_length] at mlv
    obtain ⟨x1, x2⟩ := hxo
    dsimp only at x1 x2
    obtain ⟨G1, e1, rfl⟩ := lown_sl x1
    obtain ⟨G2, e2, rfl⟩ := lown_sl x2
    have hcx : (PicD.mk ⟨(dt.length : Int), pb, pS⟩ (.slice G1 pb.length e1) (.slice G2 pS.length e2) hB1 hS1').cells = (pcells (dt.length : Int) (.slice G1 pb.length e1) (.slice G2 pS.length e2)) := rfl
    rw [hcx] at hx
    have hz := hF.size hcan
    obtain ⟨l1, l2, l3, l4, l5⟩ := hF.last hNm mlv mf1 mf2
    have hT := fun w' r1 r2 => Recover_ok w' ba ma S hF.ok h hS dt.length pb pS G1 G2 e1 e2 r1 r2 (by omega)
    have hsz := (Sb.rec_keeps hF.ok (q := dt.length) (by have := hNm.len; omega) (bs := pb) (ss := pS) (by omega)).size
    generalize S.rec_ dt.length pb pS = D at l1 l2 l3 l4 l5 hT hsz
    obtain ⟨S', r⟩ := D
    dsimp only at l1 l2 l3 l4 l5 hT hsz
    subst l1
    have hz' : S'.size ≤ 2899990 := by omega
    refine .seq ((.drawX [0, 1, 2, 3, 4, 5, 6, 7, 8, 9, 10, 11] [ShB s1 p1 c1 (.slice AD dt.length kD) (.slice (some ⟨t1, z1, none⟩) ps.length kP), (t1, Ch.cells q1 40)] (by intro y hy; simp at hy; rcases hy with rfl | rfl <;> simp) (by kernel_rfl) (by kernel_rfl) ?_))
    refine .v (fun _ f => .move rfl) (.v (fun _ f => .nilCheck rfl) (.v (fun _ f => .fieldAddr rfl) (.v (fun _ f => .load (v := .slice (some ⟨t1, z1, none⟩) ps.length kP) rfl (.one (hb := .sub f) rfl)) (.v (fun _ f => .move rfl) (.v (fun _ f => .nilCheck rfl) (.v (fun _ f => .fieldAddr rfl) (.v (fun _ f => .load (v := .slice (some ⟨t1, z1, none⟩) ps.length kP) rfl (.one (hb := .sub f) rfl)) (.v (fun _ f => .len rfl) (.v (fun _ f => .subi rfl rfl (by omega)) (.v (fun _ f => .indexAddr rfl rfl (by omega) (by omega)) (.v (fun hs' f => .loadA (vs := pcells (dt.length : Int) (.slice G1 pb.length e1) (.slice G2 pS.length e2)) rfl (hx hs' (fun y hy => f (by simp at hy; subst hy; simp))) rfl) (.nil ?_))))))))))))
    refine .run [12, 13] (by intro y hy; simp at hy; rcases hy with rfl | rfl <;> simp) (by kernel_rfl) (.nw .alloc fun b18 => (.st (.sw (vs := pcells (dt.length : Int) (.slice G1 pb.length e1) (.slice G2 pS.length e2)) rfl rfl) (by intro _ y hy; simp at hy; rcases hy with rfl | rfl <;> simp) (.nil ?_)))
    refine .seq ((.drawP [0, 1, 2, 3, 4, 5, 6, 7, 8, 9, 11, 10, 12, 13, 14] [PcB b18 dt.length (.slice G1 pb.length e1) (.slice G2 pS.length e2)] (by intro y hy; simp at hy; subst hy; simp) (by kernel_rfl) (by kernel_rfl) ?_))
    refine .v (fun _ f => .move rfl) (.v (fun _ f => .loadA (vs := pcells (dt.length : Int) (.slice G1 pb.length e1) (.slice G2 pS.length e2)) rfl (.whole (hb := .sub f)) rfl) ?_)
    refine .ef (.callT h rfl rfl fun w s => hT w (OwnS.rd x1 s (fun y hy => by simp [hxs (List.mem_append_left _ hy)]) (fun b hb => Sat.apart (a := picH ps) (b := h) s b (List.map_subset _ hxs (by simp only [List.map_append, List.mem_append]; exact .inl hb)))) (OwnS.rd x2 s (fun y hy => by simp [hxs (List.mem_append_right _ hy)]) (fun b hb => Sat.apart (a := picH ps) (b := h) s b (List.map_subset _ hxs (by simp only [List.map_append, List.mem_append]; exact .inr hb))))) (fun v hs' ⟨h, _, e⟩ f => by subst e; intro y hy; simp at hy; subst hy; simp) ?_
    rintro _ _ ⟨h', ⟨rfl, hS'⟩, rfl⟩
    refine .v (fun _ f => .eqi rfl rfl) (.v (fun _ f => .move rfl) (.v (fun _ f => .move rfl) (.pc (v := .bool true) rfl rfl (fun w s => GoodT l2 s hS' (fun y hy => by simp [hy])) (.v (fun _ f => .pickT rfl rfl rfl) (.v (fun _ f => .move rfl) (.v (fun _ f => .move rfl) (.v (fun _ f => .loadA (vs := pcells (dt.length : Int) (.slice G1 pb.length e1) (.slice G2 pS.length e2)) rfl (.whole (hb := .sub f)) rfl) ?_)))))))
    refine .cl rfl rfl (fun w s => PictureF (p := ⟨(dt.length : Int), pb, pS⟩) l3 (by rw [l4, l5]) s hS' (fun y hy => by simp [hy]) hz') ?_
    rintro _ _ ⟨E1, E2, f1, f2, u1, u2, rfl, rfl, y1, y2⟩
    dsimp only at y1 y2 ⊢
    refine .pc (v := .bool true) rfl rfl (fun w s => samePicture_ok w E1 E2 G1 G2 f1 f2 e1 e2 ⟨(dt.length : Int), pb, pS⟩ (OwnS.rd y1 s (no := []) (fun y hy => by simp [hy]) (by simp)) (OwnS.rd y2 s (no := []) (fun y hy => by simp [hy]) (by simp)) (OwnS.rd x1 s (no := []) (fun y hy => by simp [hxs (List.mem_append_left _ hy)]) (by simp)) (OwnS.rd x2 s (no := []) (fun y hy => by simp [hxs (List.mem_append_right _ hy)]) (by simp)) (by dsimp only; omega)) ?_
    refine .v (fun _ f => .pickT rfl rfl rfl) (.v (fun _ f => .assign rfl) (.nil ?_))
    exact .ret ⟨[_], ⟨rfl, trivial⟩, rfl⟩
end Go.Proofs.Ytinmhhonpflojaa

/- FeedDepths: the law's walk. -/
namespace Go.Proofs.Ytinmhhonpflojaa
open Go.V
set_option linter.unusedVariables false
set_option linter.unusedSimpArgs false

theorem tds_at {l : List Dt} {i : Nat} (h : i < l.length) : tds (l.drop i) = if l[i].k = 2 then (l[i].d, l[i].p, l[i].q) :: tds (l.drop (i + 1)) else tds (l.drop (i + 1)) := by
  rw [List.drop_eq_getElem_cons h]
  unfold tds
  by_cases h2 : l[i].k = 2
  · rw [if_pos h2, List.filter_cons_of_pos (by simpa using h2)]; rfl
  · rw [if_neg h2, List.filter_cons_of_neg (by simpa using h2)]
abbrev Sw (s p b : Nat) (vD vP : Value) (hD hP : Hp) (ps : List PicD) : Hp := ShB s p b vD vP :: (hD ++ (hP ++ picH ps))
set_option maxRecDepth 20000 in
set_option maxHeartbeats 4000000 in
theorem FeedDepths_ok (w : World) (one more cc cm : Int) (A : Option Addr) (len cap : Nat) (l : List Cm) (hl : len = l.length) (hA : Rd w [] A (crows l)) (hb : len ≤ 600000) (hw : ∀ c ∈ l, c.wf) :
    Is Try.prog 8 [.int .i64 one, .int .i64 more, .agg ⟨[.int .i64 cc, .int .i64 cm]⟩, .slice A len cap] w (.bool true) := by
  refine Does.pure (Does.of (n := 298) Try.func8 rfl rfl rfl rfl ?_)
  refine .seq ((.region (.nw (.box rfl rfl) fun b6 => (.v (.assign rfl) (.nil ?_)))))
  refine .seq (.seq ((.region (.pc rfl rfl (fun w s => lives_ok w) (.v (.not rfl) (.nil ?_))))))
  refine .cond rfl (fun h => absurd h (by decide)) (fun _ => .skip ?_)
  refine .mid (X := Int) (fun x => [(0, .int .i64 one), (1, .int .i64 x), (3, .slice A len cap), (6, .pointer (some ⟨b6, 0, none⟩))]) (fun x => [(b6, .cells [.int .i64 cc, .int .i64 cm] 77)]) (fun x => 0 ≤ x ∧ x ≤ 64) (.seq ((.region (.v (.move rfl) (.v (.lss rfl rfl) (.v (.move rfl) (.or 22 24 2 2 rfl rfl (fun g1 => .v (.move rfl) (.v (.gtr rfl rfl) (.nil ⟨rfl, rfl, rfl, rfl⟩))) (.nil ?_)))))))) ?_
  · refine .cond rfl (fun h2 => ?_) (fun h2 => .skip ?_)
    · refine .region (.v (.assign rfl) (.nil ?_))
      exact ⟨0, by omega, .cons rfl (.cons rfl (.cons rfl (.cons rfl (.nil _)))), fun _ s => s⟩
    · rw [Bool.or_eq_false_iff] at h2
      have h3 := of_decide_eq_false h2.1
      have h4 := of_decide_eq_false h2.2
      exact ⟨more, by omega, .cons rfl (.cons rfl (.cons rfl (.cons rfl (.nil _)))), fun _ s => s⟩
  rintro more hm
  refine .seq ((.region (.v (.move rfl) (.v (.loadA (vs := [.int .i64 cc, .int .i64 cm]) rfl .whole rfl) (.v (.move rfl) ?_)))))
  by_cases hok : (1 ≤ one ∧ one ≤ 64) ∧ Cfg cc cm
  case neg =>
    refine .pc rfl rfl (fun w s => shown_no w one cc cm A len cap hok) ?_
    refine .v (.move rfl) (.v (.extract rfl rfl) (.v (.extract rfl rfl) (.v (.assign rfl) (.v (.assign rfl) (.nil ?_)))))
    refine .seq (.seq ((.region (.v (.move rfl) (.v (.not rfl) (.v (.move rfl) (.or (b2 := true) 35 37 2 2 rfl rfl (fun g2 => .v (.move rfl) (.v (.eql_ptr_nil rfl rfl) (.nil ⟨rfl, rfl, rfl, rfl⟩))) (.nil ?_))))))))
    refine .cond rfl (fun h3 => ?_) (fun h3 => absurd h3 (by simp))
    refine .seq ((.region (.v (.move rfl) (.v (.assign rfl) (.nil ?_)))))
    exact .ret ⟨[_], ⟨rfl, trivial⟩, rfl⟩
  obtain ⟨hone, hc⟩ := hok
  obtain ⟨dp, rfl⟩ : ∃ dp : Nat, one = dp := ⟨one.toNat, by omega⟩
  refine .ef (.call0 rfl rfl fun w' s => shown_yes w' dp cc cm A len cap l hl (hA.keep0 s) hb hw (by omega) hc) ?_
  rintro _ _ ⟨_, ⟨s1, p1, c1, vD1, hD1, ps1, vP1, hP1, rfl, rfl, o1, r1, n1⟩, rfl⟩
  refine .v (.move rfl) (.v (.extract rfl rfl) (.v (.extract rfl rfl) (.v (.assign rfl) (.v (.assign rfl) (.nil ?_)))))
  refine .seq (.seq ((.region (.v (.move rfl) (.v (.not rfl) (.v (.move rfl) (.or (b2 := false) 35 37 2 2 rfl rfl (fun g2 => .v (.move rfl) (.v (.eql_ptr_nil rfl rfl) (.nil ⟨rfl, rfl, rfl, rfl⟩))) (.nil ?_))))))))
  refine .cond rfl (fun h => absurd h (by simp)) (fun _ => .skip ?_)
  refine .mid (X := Nat) (fun x => [(0, .int .i64 dp), (1, .int .i64 x), (3, .slice A len cap), (6, .pointer (some ⟨b6, 0, none⟩)), (9, .pointer (some ⟨s1, 0, none⟩))]) (fun x => Sw s1 p1 c1 vD1 vP1 hD1 hP1 ps1 ++ [(b6, .cells [.int .i64 cc, .int .i64 cm] 77)]) (fun x => dp + x ≤ 64) (.seq ((.region (.v (.move rfl) (.v (.move rfl) (.v (.addi rfl rfl (by omega)) (.v (.gtr rfl rfl) (.nil ?_)))))))) ?_
  · refine .cond_dec rfl (fun h4 => ?_) (fun h4 => .skip ?_)
    · refine .region (.v (.move rfl) (.v (.subi rfl rfl (by omega)) (.v (.assign rfl) (.nil ?_))))
      exact ⟨64 - dp, by omega, .cons rfl (.cons (congrArg some (by congr 1; omega)) (.cons rfl (.cons rfl (.cons rfl (.nil _))))), fun _ s => s⟩
    · exact ⟨more.toNat, by omega, .cons rfl (.cons (congrArg some (by congr 1; omega)) (.cons rfl (.cons rfl (.cons rfl (.nil _))))), fun _ s => s⟩
  clear hm more
  rintro em hem
  refine .seq ((.region (.v (.move rfl) (.v (.move rfl) (.v (.addi rfl rfl (by omega)) (.v (.loadA (vs := [.int .i64 cc, .int .i64 cm]) rfl .whole rfl) (.v (.move rfl) ?_)))))))
  refine .ef (.call0 rfl rfl fun w' s => shown_yes w' (dp + em) cc cm A len cap l hl (hA.keep0 s) hb hw (by omega) hc) ?_
  rintro _ _ ⟨_, ⟨s2, p2, c2, vD2, hD2, ps2, vP2, hP2, rfl, rfl, o2, r2, n2⟩, rfl⟩
  refine .v (.move rfl) (.v (.extract rfl rfl) (.v (.extract rfl rfl) (.v (.assign rfl) (.v (.assign rfl) (.nil ?_)))))
  refine .keep (Sw s2 p2 c2 vD2 vP2 hD2 hP2 ps2 ++ Sw s1 p1 c1 vD1 vP1 hD1 hP1 ps1) ?_
  obtain ⟨oD1, oP1, oO1⟩ := o1
  obtain ⟨oD2, oP2, oO2⟩ := o2
  obtain ⟨AD1, kD1, rfl⟩ := OwnS.slice oD1
  obtain ⟨AP1, kP1, rfl⟩ := OwnS.slice oP1
  obtain ⟨AD2, kD2, rfl⟩ := OwnS.slice oD2
  obtain ⟨AP2, kP2, rfl⟩ := OwnS.slice oP2
  obtain ⟨-, f1, g1⟩ := run_facts dp cc cm l l.length (Nat.le_refl _)
  obtain ⟨-, f2, g2⟩ := run_facts (dp + em) cc cm l l.length (Nat.le_refl _)
  have htd := run_trades dp (dp + em) cc cm l l.length (Nat.le_refl _)
  rw [List.take_length] at f1 g1 f2 g2 htd
  rw [← r1] at f1 g1
  rw [← r2] at f2 g2
  rw [List.length_map] at f1 f2
  generalize (Sh.run dp cc cm l).dt = d1 at oD1 n1 htd
  generalize (Sh.run (dp + em) cc cm l).dt = d2 at oD2 n2 htd
  clear r1 r2
  refine .seq (.seq ((.drawK [ShB s2 p2 c2 (.slice AD2 d2.length kD2) (.slice AP2 ps2.length kP2), ShB s1 p1 c1 (.slice AD1 d1.length kD1) (.slice AP1 ps1.length kP1)] (by intro y hy; simp at hy; rcases hy with rfl | rfl <;> simp) (by kernel_rfl) (by kernel_rfl) ?_)))
  refine .v (fun _ f => .move rfl) (.v (fun _ f => .not rfl) (.v (fun _ f => .move rfl) (.or (b2 := false) 57 59 2 2 rfl rfl (fun g3 => .v (fun _ f => .move rfl) (.v (fun _ f => .eql_ptr_nil rfl rfl) (.nil ⟨rfl, rfl, rfl, rfl⟩))) (.v (fun _ f => .move rfl) (.or 61 72 11 11 rfl rfl (fun g4 => .v (fun _ f => .move rfl) (.v (fun _ f => .nilCheck rfl) (.v (fun _ f => .fieldAddr rfl) (.v (fun _ f => .load (v := .slice AP1 ps1.length kP1) rfl (.one (hb := .sub f) rfl)) (.v (fun _ f => .len rfl) (.v (fun _ f => .move rfl) (.v (fun _ f => .nilCheck rfl) (.v (fun _ f => .fieldAddr rfl) (.v (fun _ f => .load (v := .slice AP2 ps2.length kP2) rfl (.one (hb := .sub f) rfl)) (.v (fun _ f => .len rfl) (.v (fun _ f => .nei rfl rfl) (.nil ⟨rfl, rfl, rfl, rfl⟩)))))))))))) (.nil ?_))))))
  refine .cond rfl (fun h5 => absurd h5 (by rw [f1, f2]; simp)) (fun _ => .skip ?_)
  refine .seq (.seq ((.region (.v (.assign rfl) (.nil ?_)))))
  refine .block (.loop (X := Nat) (fun i => [(0, .int .i64 dp), (9, .pointer (some ⟨s1, 0, none⟩)), (11, .pointer (some ⟨s2, 0, none⟩)), (13, .int .i64 i)]) (fun _ => Sw s2 p2 c2 (.slice AD2 d2.length kD2) (.slice AP2 ps2.length kP2) hD2 hP2 ps2 ++ Sw s1 p1 c1 (.slice AD1 d1.length kD1) (.slice AP1 ps1.length kP1) hD1 hP1 ps1) (fun i => i ≤ l.length + 1) (fun i => l.length + 1 - i) 0 (Nat.zero_le _) (.cons rfl (.cons rfl (.cons rfl (.cons rfl (.nil _))))) (fun _ s => s) ?_)
  intro i hi
  refine .seq (.seq ((.region (.v (.move rfl) (.v (.move rfl) (.v (.nilCheck rfl) (.v (.fieldAddr rfl) (.v (.load (v := .slice AP1 ps1.length kP1) rfl (.one rfl)) (.v (.len rfl) (.v (.lss rfl rfl) (.nil ?_)))))))))))
  refine .cond_dec rfl (fun h6 => .skip ?_) (fun h6 => .exit ?_)
  · have h1l : i < ps1.length := by omega
    have h2l : i < ps2.length := by omega
    obtain ⟨q1, hq1⟩ := g1 i (by omega)
    obtain ⟨q2, hq2⟩ := g2 i (by omega)
    have hV := bks_vl hc hw i (by omega)
    generalize bks cc cm (l.take i) = B at hq1 hq2 hV
    rw [List.getElem?_map, List.getElem?_eq_getElem h1l] at hq1
    rw [List.getElem?_map, List.getElem?_eq_getElem h2l] at hq2
    have hxe := Option.some.inj hq1
    have hye := Option.some.inj hq2
    clear hq1 hq2
    obtain ⟨t1, z1, m1, rfl, -, rfl, -, -, -⟩ := OwnS.some_ oP1 (by omega)
    obtain ⟨t2, z2, m2, rfl, -, rfl, -, -, -⟩ := OwnS.some_ oP2 (by omega)
    have hx := fun hs' hsub => recAt PicD.cells 3 (fun _ => rfl) (z := (i : Int)) (OwnS.at0 (w0 := w) (own := []) (hs := hs') oP1 hsub) h1l
    have hy := fun hs' hsub => recAt PicD.cells 3 (fun _ => rfl) (z := (i : Int)) (OwnS.at0 (w0 := w) (own := []) (hs := hs') oP2 hsub) h2l
    have hxo := oO1 _ (List.getElem_mem h1l)
    have hyo := oO2 _ (List.getElem_mem h2l)
    have hxs : ps1[i].hB ++ ps1[i].hS ⊆ picH ps1 := fun y hy => List.mem_flatMap.2 ⟨_, List.getElem_mem h1l, hy⟩
    have hys : ps2[i].hB ++ ps2[i].hS ⊆ picH ps2 := fun y hy => List.mem_flatMap.2 ⟨_, List.getElem_mem h2l, hy⟩
    generalize ps1[i] = x at hx hxo hxs hxe
    generalize ps2[i] = y at hy hyo hys hye
    obtain ⟨pc1, vB1, vS1, hB1, hS1⟩ := x
    obtain ⟨pc2, vB2, vS2, hB2, hS2⟩ := y
    dsimp only at hxe hye hxs hys
    subst hxe
    subst hye
    obtain ⟨x1, x2⟩ := hxo
    obtain ⟨y1, y2⟩ := hyo
    dsimp only [pcB] at x1 x2 y1 y2
    obtain ⟨G1, e1, rfl⟩ := lown_sl x1
    obtain ⟨G2, e2, rfl⟩ := lown_sl x2
    obtain ⟨H1, e3, rfl⟩ := lown_sl y1
    obtain ⟨H2, e4, rfl⟩ := lown_sl y2
    have hcx : (PicD.mk (pcB q1 dp B) (.slice G1 (lvs dp B.bs).length e1) (.slice G2 (lvs dp B.ss).length e2) hB1 hS1).cells = (pcells q1 (.slice G1 (lvs dp B.bs).length e1) (.slice G2 (lvs dp B.ss).length e2)) := rfl
    have hcy : (PicD.mk (pcB q2 (dp + em) B) (.slice H1 (lvs (dp + em) B.bs).length e3) (.slice H2 (lvs (dp + em) B.ss).length e4) hB2 hS2).cells = (pcells q2 (.slice H1 (lvs (dp + em) B.bs).length e3) (.slice H2 (lvs (dp + em) B.ss).length e4)) := rfl
    rw [hcx] at hx
    rw [hcy] at hy
    obtain ⟨⟨a1, a2⟩, a3, a4⟩ := lvs_pre hV dp em
    have hle1 : (lvs dp B.bs).length ≤ (lvs (dp + em) B.bs).length := by have := congrArg List.length a1; rw [List.length_take] at this; omega
    have hle2 : (lvs dp B.ss).length ≤ (lvs (dp + em) B.ss).length := by have := congrArg List.length a3; rw [List.length_take] at this; omega
    have hk1 := (OwnS.cap_ y1).2
    have hk2 := (OwnS.cap_ y2).2
    have hl1 := (lvs_le hV dp).1
    have hl2 := (lvs_le hV dp).2
    have rt1 : ∀ w' : World, Rd w' [] H1 (lrows (lvs (dp + em) B.bs)) → Rd w' [] H1 ((lvs dp B.bs).flatMap Lv.cells) := fun w' h => by
      have := h.take ((lvs dp B.bs).length * 3)
      unfold lrows at this
      rw [← V.rows_take Lv.cells 3 (fun _ => rfl), ← a1] at this
      exact this
    have rt2 : ∀ w' : World, Rd w' [] H2 (lrows (lvs (dp + em) B.ss)) → Rd w' [] H2 ((lvs dp B.ss).flatMap Lv.cells) := fun w' h => by
      have := h.take ((lvs dp B.ss).length * 3)
      unfold lrows at this
      rw [← V.rows_take Lv.cells 3 (fun _ => rfl), ← a3] at this
      exact this
    refine .seq (.block (.mid (X := Nat × Nat) (fun z => [(0, .int .i64 dp), (9, .pointer (some ⟨s1, 0, none⟩)), (11, .pointer (some ⟨s2, 0, none⟩)), (13, .int .i64 i), (14, .pointer (some ⟨z.1, 0, none⟩)), (15, .pointer (some ⟨z.2, 0, none⟩))])
      (fun z => (z.1, .cells (pcells q1 (.slice G1 (lvs dp B.bs).length e1) (.slice G2 (lvs dp B.ss).length e2)) 40) :: (z.2, .cells (pcells q2 (.slice H1 (lvs (dp + em) B.bs).length e3) (.slice H2 (lvs (dp + em) B.ss).length e4)) 40) :: (Sw s2 p2 c2 (.slice AD2 d2.length kD2) (.slice (some ⟨t2, z2, none⟩) ps2.length kP2) hD2 [(t2, Ch.cells m2 40)] ps2 ++ Sw s1 p1 c1 (.slice AD1 d1.length kD1) (.slice (some ⟨t1, z1, none⟩) ps1.length kP1) hD1 [(t1, Ch.cells m1 40)] ps1)) (fun _ => True)
      (.drawX [0, 1, 2, 3, 4, 5, 6, 7, 8, 9, 10, 11, 12, 13] (Sw s2 p2 c2 (.slice AD2 d2.length kD2) (.slice (some ⟨t2, z2, none⟩) ps2.length kP2) hD2 [(t2, Ch.cells m2 40)] ps2 ++ Sw s1 p1 c1 (.slice AD1 d1.length kD1) (.slice (some ⟨t1, z1, none⟩) ps1.length kP1) hD1 [(t1, Ch.cells m1 40)] ps1) (fun _ h => h) (by kernel_rfl) (by kernel_rfl) ?_) ?_))
    · refine .v (fun _ f => .move rfl) (.v (fun _ f => .nilCheck rfl) (.v (fun _ f => .fieldAddr rfl) (.v (fun _ f => .load (v := .slice (some ⟨t1, z1, none⟩) ps1.length kP1) rfl (.one (hb := .sub f) rfl)) (.v (fun _ f => .move rfl) (.v (fun _ f => .indexAddr rfl rfl (by omega) (by omega)) (.v (fun hs' f => .loadA (vs := (pcells q1 (.slice G1 (lvs dp B.bs).length e1) (.slice G2 (lvs dp B.ss).length e2))) rfl (hx hs' (fun y hy => f (by simp at hy; subst hy; simp))) rfl) (.v (fun _ f => .move rfl) (.v (fun _ f => .nilCheck rfl) (.v (fun _ f => .fieldAddr rfl) (.v (fun _ f => .load (v := .slice (some ⟨t2, z2, none⟩) ps2.length kP2) rfl (.one (hb := .sub f) rfl)) (.v (fun _ f => .move rfl) (.v (fun _ f => .indexAddr rfl rfl (by omega) (by omega)) (.v (fun hs' f => .loadA (vs := (pcells q2 (.slice H1 (lvs (dp + em) B.bs).length e3) (.slice H2 (lvs (dp + em) B.ss).length e4))) rfl (hy hs' (fun y hy => f (by simp at hy; subst hy; simp))) rfl) (.nil ?_))))))))))))))
      refine .two 14 15 (by kernel_rfl) (.nw rfl .alloc fun b14 => ?_) (.nw rfl .alloc fun b15 => ?_)
      · refine .run [15, 16, 17] (fun y hy => List.mem_cons_of_mem _ hy) (by kernel_rfl) (.nw .alloc fun b15 => (.st (.sw (vs := (pcells q1 (.slice G1 (lvs dp B.bs).length e1) (.slice G2 (lvs dp B.ss).length e2))) rfl rfl) (fun _ y hy => List.mem_cons_of_mem _ (List.mem_cons_of_mem _ hy)) (.st (.sw (vs := (pcells q2 (.slice H1 (lvs (dp + em) B.bs).length e3) (.slice H2 (lvs (dp + em) B.ss).length e4))) rfl rfl) (fun _ y hy => List.mem_cons_of_mem _ (List.mem_cons_of_mem _ hy)) (.nil ?_))))
        exact ⟨(b14, b15), trivial, .cons rfl (.cons rfl (.cons rfl (.cons rfl (.cons rfl (.cons rfl (.nil _)))))), fun _ s => s.perm (List.Perm.swap _ _ _)⟩
      · refine .run [14, 16, 17] (fun y hy => List.mem_cons_of_mem _ hy) (by kernel_rfl) (.nw .alloc fun b14 => (.st (.sw (vs := (pcells q1 (.slice G1 (lvs dp B.bs).length e1) (.slice G2 (lvs dp B.ss).length e2))) rfl rfl) (fun _ y hy => List.mem_cons_of_mem _ (List.mem_cons_of_mem _ hy)) (.st (.sw (vs := (pcells q2 (.slice H1 (lvs (dp + em) B.bs).length e3) (.slice H2 (lvs (dp + em) B.ss).length e4))) rfl rfl) (fun _ y hy => List.mem_cons_of_mem _ (List.mem_cons_of_mem _ hy)) (.nil ?_))))
        exact ⟨(b14, b15), trivial, .cons rfl (.cons rfl (.cons rfl (.cons rfl (.cons rfl (.cons rfl (.nil _)))))), fun _ s => s⟩
    · rintro ⟨b14, b15⟩ -
      dsimp only
      refine .seq (.seq ((.drawK _ (fun _ h => h) (by kernel_rfl) (by kernel_rfl) ?_)))
      refine .v (fun _ f => .fieldAddr rfl) (.v (fun _ f => .load (v := .slice G1 (lvs dp B.bs).length e1) rfl (.one (hb := .sub f) rfl)) (.v (fun _ f => .len rfl) (.v (fun _ f => .fieldAddr rfl) (.v (fun _ f => .load (v := .slice H1 (lvs (dp + em) B.bs).length e3) rfl (.one (hb := .sub f) rfl)) (.v (fun _ f => .len rfl) (.v (fun _ f => .gtr rfl rfl) (.v (fun _ f => .move rfl) (.or 104 111 7 7 rfl rfl (fun g5 => .v (fun _ f => .fieldAddr rfl) (.v (fun _ f => .load (v := .slice G2 (lvs dp B.ss).length e2) rfl (.one (hb := .sub f) rfl)) (.v (fun _ f => .len rfl) (.v (fun _ f => .fieldAddr rfl) (.v (fun _ f => .load (v := .slice H2 (lvs (dp + em) B.ss).length e4) rfl (.one (hb := .sub f) rfl)) (.v (fun _ f => .len rfl) (.v (fun _ f => .gtr rfl rfl) (.nil ⟨rfl, rfl, rfl, rfl⟩)))))))) (.v (fun _ f => .move rfl) ?_)))))))))
      refine .or (b2 := false) 113 123 10 10 rfl rfl (fun g6 => .v (fun _ f => .fieldAddr rfl) (.v (fun _ f => .load (v := .slice G1 (lvs dp B.bs).length e1) rfl (.one (hb := .sub f) rfl)) (.v (fun _ f => .fieldAddr rfl) (.v (fun _ f => .load (v := .slice H1 (lvs (dp + em) B.bs).length e3) rfl (.one (hb := .sub f) rfl)) (.v (fun _ f => .fieldAddr rfl) (.v (fun _ f => .load (v := .slice G1 (lvs dp B.bs).length e1) rfl (.one (hb := .sub f) rfl)) (.v (fun _ f => .len rfl) (.v (fun _ f => .slHi rfl rfl (by omega) (by omega)) (.pc (v := .bool true) rfl rfl (fun w' s => sameLevels_ok w' G1 H1 _ _ _ (lvs dp B.bs) (OwnS.rd x1 s (no := []) (fun y hy => by have := hxs (List.mem_append_left _ hy); simp [this]) (by simp)) (rt1 w' (OwnS.rd y1 s (no := []) (fun y hy => by have := hys (List.mem_append_left _ hy); simp [this]) (by simp))) rfl (by omega)) (.v (fun _ f => .not rfl) (.nil ⟨rfl, rfl, rfl, rfl⟩))))))))))) (.v (fun _ f => .move rfl) ?_)
      refine .or (b2 := false) 125 135 10 10 rfl rfl (fun g7 => .v (fun _ f => .fieldAddr rfl) (.v (fun _ f => .load (v := .slice G2 (lvs dp B.ss).length e2) rfl (.one (hb := .sub f) rfl)) (.v (fun _ f => .fieldAddr rfl) (.v (fun _ f => .load (v := .slice H2 (lvs (dp + em) B.ss).length e4) rfl (.one (hb := .sub f) rfl)) (.v (fun _ f => .fieldAddr rfl) (.v (fun _ f => .load (v := .slice G2 (lvs dp B.ss).length e2) rfl (.one (hb := .sub f) rfl)) (.v (fun _ f => .len rfl) (.v (fun _ f => .slHi rfl rfl (by omega) (by omega)) (.pc (v := .bool true) rfl rfl (fun w' s => sameLevels_ok w' G2 H2 _ _ _ (lvs dp B.ss) (OwnS.rd x2 s (no := []) (fun y hy => by have := hxs (List.mem_append_right _ hy); simp [this]) (by simp)) (rt2 w' (OwnS.rd y2 s (no := []) (fun y hy => by have := hys (List.mem_append_right _ hy); simp [this]) (by simp))) rfl (by omega)) (.v (fun _ f => .not rfl) (.nil ⟨rfl, rfl, rfl, rfl⟩))))))))))) (.nil ?_)
      refine .cond rfl (fun g => absurd g (by simp; omega)) (fun _ => .skip ?_)
      refine .seq ((.region (.v (.fieldAddr rfl) (.v (.load (v := .slice G1 (lvs dp B.bs).length e1) rfl (.one rfl)) (.v (.len rfl) (.v (.move rfl) (.v (.lss rfl rfl) (.v (.move rfl) (.and 142 149 7 7 rfl rfl (fun g8 => .v (.fieldAddr rfl) (.v (.load (v := .slice H1 (lvs (dp + em) B.bs).length e3) rfl (.one rfl)) (.v (.len rfl) (.v (.fieldAddr rfl) (.v (.load (v := .slice G1 (lvs dp B.bs).length e1) rfl (.one rfl)) (.v (.len rfl) (.v (.gtr rfl rfl) (.nil ⟨rfl, rfl, rfl, rfl⟩)))))))) (.v (.move rfl) (.or 151 165 14 7 rfl rfl (fun g9 => .v (.fieldAddr rfl) (.v (.load (v := .slice G2 (lvs dp B.ss).length e2) rfl (.one rfl)) (.v (.len rfl) (.v (.move rfl) (.v (.lss rfl rfl) (.v (.move rfl) (.and 157 164 7 7 rfl rfl (fun g10 => .v (.fieldAddr rfl) (.v (.load (v := .slice H2 (lvs (dp + em) B.ss).length e4) rfl (.one rfl)) (.v (.len rfl) (.v (.fieldAddr rfl) (.v (.load (v := .slice G2 (lvs dp B.ss).length e2) rfl (.one rfl)) (.v (.len rfl) (.v (.gtr rfl rfl) (.nil ⟨rfl, rfl, rfl, rfl⟩)))))))) (.nil ⟨rfl, rfl, rfl, rfl⟩)))))))) (.nil ?_))))))))))))
      refine .cond rfl (fun g => absurd g (by
        simp only [Bool.or_eq_true, Bool.and_eq_true, decide_eq_true_eq]
        rintro (⟨u1, u2⟩ | ⟨u1, u2⟩)
        · have := a2 (by omega); omega
        · have := a4 (by omega); omega)) (fun _ => .skip ?_)
      refine .region (.v (.move rfl) (.v (.addi rfl rfl (by omega)) (.v (.assign rfl) (.nil ?_))))
      exact ⟨i + 1, by omega, by omega, .cons rfl (.cons rfl (.cons rfl (.cons rfl (.nil _)))), fun _ s => s.sub (.cons _ (List.sublist_cons_self _ _))⟩
  · clear hi h6
    refine .seq ((.region (.v (.assign rfl) (.nil ?_))))
    refine .seq (.seq ((.region (.v (.assign rfl) (.nil ?_)))))
    refine .block (.loop (X := Nat × Nat) (fun x => [(9, .pointer (some ⟨s1, 0, none⟩)), (11, .pointer (some ⟨s2, 0, none⟩)), (16, .int .i64 x.2), (17, .int .i64 x.1)]) (fun _ => Sw s2 p2 c2 (.slice AD2 d2.length kD2) (.slice AP2 ps2.length kP2) hD2 hP2 ps2 ++ Sw s1 p1 c1 (.slice AD1 d1.length kD1) (.slice AP1 ps1.length kP1) hD1 hP1 ps1) (fun x => x.1 ≤ d1.length ∧ x.2 ≤ d2.length ∧ tds (d1.drop x.1) = tds (d2.drop x.2)) (fun x => d1.length - x.1) (0, 0) ⟨Nat.zero_le _, Nat.zero_le _, htd⟩ (.cons rfl (.cons rfl (.cons rfl (.cons rfl (.nil _))))) (fun _ s => s) ?_)
    rintro ⟨j, k⟩ ⟨hj, hk, ht⟩
    dsimp only at hj hk ht ⊢
    have hbd1 : d1.length ≤ 4000000000000 := by omega
    have hbd2 : d2.length ≤ 4000000000000 := by omega
    refine .seq (.seq ((.region (.v (.move rfl) (.v (.move rfl) (.v (.nilCheck rfl) (.v (.fieldAddr rfl) (.v (.load (v := .slice AD1 d1.length kD1) rfl (.one rfl)) (.v (.len rfl) (.v (.lss rfl rfl) (.nil ?_)))))))))))
    refine .cond_dec rfl (fun h9 => .skip ?_) (fun h9 => .exit ?_)
    · have hjl : j < d1.length := by omega
      obtain ⟨t1, z1, y1, rfl, -, rfl, -, -, -⟩ := OwnS.some_ oD1 (by omega)
      have hfl := fun hs' hsub q (v : Value) (hv : (d1[j].cells)[q]? = some v) => fldAt Dt.cells 6 (fun _ => rfl) (z := (j : Int)) (OwnS.at0 (w0 := w) (own := []) (hs := hs') oD1 hsub) hjl q hv
      have htj := tds_at hjl
      generalize d1[j] = x at hfl htj
      refine .seq (.block (.seq (.seq ((.region (.v (.move rfl) (.v (.nilCheck rfl) (.v (.fieldAddr rfl) (.v (.load (v := .slice (some ⟨t1, z1, none⟩) d1.length kD1) rfl (.one rfl)) (.v (.move rfl) (.v (.indexAddr rfl rfl (by omega) (by omega)) (.v (.fieldAddr rfl) (.v (.load (v := .int .i64 x.k) rfl (hfl _ (fun y hy => by simp at hy; subst hy; simp) 1 _ rfl)) (.v (.nei rfl rfl) (.nil ?_)))))))))))))))
      refine .cond_dec rfl (fun h10 => .exit ?_) (fun h10 => .skip ?_)
      · rw [if_neg h10] at htj
        refine .region (.v (.move rfl) (.v (.addi rfl rfl (by omega)) (.v (.assign rfl) (.nil ?_))))
        exact ⟨(j + 1, k), ⟨by dsimp only; omega, hk, by dsimp only; rw [← htj]; exact ht⟩, by dsimp only; omega, .cons rfl (.cons rfl (.cons rfl (.cons rfl (.nil _)))), fun _ s => s⟩
      · rw [if_pos (Decidable.of_not_not h10)] at htj
        refine .seq (.block (.loop (X := Nat) (fun k => [(9, .pointer (some ⟨s1, 0, none⟩)), (11, .pointer (some ⟨s2, 0, none⟩)), (16, .int .i64 k), (17, .int .i64 j)]) (fun _ => Sw s2 p2 c2 (.slice AD2 d2.length kD2) (.slice AP2 ps2.length kP2) hD2 hP2 ps2 ++ Sw s1 p1 c1 (.slice (some ⟨t1, z1, none⟩) d1.length kD1) (.slice AP1 ps1.length kP1) [(t1, Ch.cells y1 24)] hP1 ps1) (fun k => k ≤ d2.length ∧ tds (d1.drop j) = tds (d2.drop k)) (fun k => d2.length - k) k ⟨hk, ht⟩ (.cons rfl (.cons rfl (.cons rfl (.cons rfl (.nil _))))) (fun _ s => s) ?_))
        clear hk ht
        rintro k ⟨hk, ht⟩
        by_cases hkl : k < d2.length
        case neg =>
          exfalso
          rw [List.drop_eq_nil_of_le (Nat.le_of_not_lt hkl), htj] at ht
          cases ht
        obtain ⟨t2, z2, y2, rfl, -, rfl, -, -, -⟩ := OwnS.some_ oD2 (by omega)
        have hfm := fun hs' hsub q (v : Value) (hv : (d2[k].cells)[q]? = some v) => fldAt Dt.cells 6 (fun _ => rfl) (z := (k : Int)) (OwnS.at0 (w0 := w) (own := []) (hs := hs') oD2 hsub) hkl q hv
        have htk := tds_at hkl
        generalize d2[k] = y at hfm htk
        refine .seq (.seq ((.region (.v (.move rfl) (.v (.move rfl) (.v (.nilCheck rfl) (.v (.fieldAddr rfl) (.v (.load (v := .slice (some ⟨t2, z2, none⟩) d2.length kD2) rfl (.one rfl)) (.v (.len rfl) (.v (.lss rfl rfl) (.v (.move rfl) (.and 192 201 9 9 rfl rfl (fun g11 => .v (.move rfl) (.v (.nilCheck rfl) (.v (.fieldAddr rfl) (.v (.load (v := .slice (some ⟨t2, z2, none⟩) d2.length kD2) rfl (.one rfl)) (.v (.move rfl) (.v (.indexAddr rfl rfl (by omega) (by omega)) (.v (.fieldAddr rfl) (.v (.load (v := .int .i64 y.k) rfl (hfm _ (fun y hy => by simp at hy; subst hy; simp) 1 _ rfl)) (.v (.nei rfl rfl) (.nil ⟨rfl, rfl, rfl, rfl⟩)))))))))) (.nil ?_)))))))))))))
        refine .cond rfl (fun g => .skip ?_) (fun g => .exit ?_)
        · simp only [Bool.and_eq_true, decide_eq_true_eq] at g
          rw [if_neg g.2] at htk
          refine .block ((.region (.v (.move rfl) (.v (.addi rfl rfl (by omega)) (.v (.assign rfl) (.nil ?_))))))
          exact ⟨k + 1, ⟨by omega, by rw [← htk]; exact ht⟩, by omega, (.cons rfl (.cons rfl (.cons rfl (.cons rfl (.nil _))))), fun _ s => s⟩
        · have hy2 : y.k = 2 := by
            by_cases h : y.k = 2
            · exact h
            · exfalso; rw [decide_eq_true (show (k : Int) < (d2.length : Nat) by omega), decide_eq_true h] at g; cases g
          rw [if_pos hy2, ht.symm, htj] at htk
          obtain ⟨e1, e2⟩ := List.cons.inj htk
          simp only [Prod.mk.injEq] at e1
          obtain ⟨e3, e4, e5⟩ := e1
          refine .seq (.seq ((.drawK _ (fun _ h => h) (by kernel_rfl) (by kernel_rfl) ?_)))
          refine .v (fun _ f => .move rfl) (.v (fun _ f => .move rfl) (.v (fun _ f => .nilCheck rfl) (.v (fun _ f => .fieldAddr rfl) (.v (fun _ f => .load (v := .slice (some ⟨t2, z2, none⟩) d2.length kD2) rfl (.one (hb := .sub f) rfl)) (.v (fun _ f => .len rfl) (.v (fun _ f => .eqi rfl rfl) (.v (fun _ f => .move rfl) (.or 212 229 17 17 rfl rfl (fun g12 => .v (fun _ f => .move rfl) (.v (fun _ f => .nilCheck rfl) (.v (fun _ f => .fieldAddr rfl) (.v (fun _ f => .load (v := .slice (some ⟨t1, z1, none⟩) d1.length kD1) rfl (.one (hb := .sub f) rfl)) (.v (fun _ f => .move rfl) (.v (fun _ f => .indexAddr rfl rfl (by omega) (by omega)) (.v (fun _ f => .fieldAddr rfl) (.v (fun hs' f => .load (v := .int .i64 x.d) rfl (hfl hs' (fun y hy => f (by simp at hy; subst hy; simp)) 2 _ rfl)) (.v (fun _ f => .move rfl) (.v (fun _ f => .nilCheck rfl) (.v (fun _ f => .fieldAddr rfl) (.v (fun _ f => .load (v := .slice (some ⟨t2, z2, none⟩) d2.length kD2) rfl (.one (hb := .sub f) rfl)) (.v (fun _ f => .move rfl) (.v (fun _ f => .indexAddr rfl rfl (by omega) (by omega)) (.v (fun _ f => .fieldAddr rfl) (.v (fun hs' f => .load (v := .int .i64 y.d) rfl (hfm hs' (fun y hy => f (by simp at hy; subst hy; simp)) 2 _ rfl)) (.v (fun _ f => .nei rfl rfl) (.nil ⟨rfl, rfl, rfl, rfl⟩)))))))))))))))))) (.v (fun _ f => .move rfl) (.or 231 248 17 17 rfl rfl (fun g13 => .v (fun _ f => .move rfl) (.v (fun _ f => .nilCheck rfl) (.v (fun _ f => .fieldAddr rfl) (.v (fun _ f => .load (v := .slice (some ⟨t1, z1, none⟩) d1.length kD1) rfl (.one (hb := .sub f) rfl)) (.v (fun _ f => .move rfl) (.v (fun _ f => .indexAddr rfl rfl (by omega) (by omega)) (.v (fun _ f => .fieldAddr rfl) (.v (fun hs' f => .load (v := .int .i64 x.p) rfl (hfl hs' (fun y hy => f (by simp at hy; subst hy; simp)) 3 _ rfl)) (.v (fun _ f => .move rfl) (.v (fun _ f => .nilCheck rfl) (.v (fun _ f => .fieldAddr rfl) (.v (fun _ f => .load (v := .slice (some ⟨t2, z2, none⟩) d2.length kD2) rfl (.one (hb := .sub f) rfl)) (.v (fun _ f => .move rfl) (.v (fun _ f => .indexAddr rfl rfl (by omega) (by omega)) (.v (fun _ f => .fieldAddr rfl) (.v (fun hs' f => .load (v := .int .i64 y.p) rfl (hfm hs' (fun y hy => f (by simp at hy; subst hy; simp)) 3 _ rfl)) (.v (fun _ f => .nei rfl rfl) (.nil ⟨rfl, rfl, rfl, rfl⟩)))))))))))))))))) (.v (fun _ f => .move rfl) (.or 250 267 17 17 rfl rfl (fun g14 => .v (fun _ f => .move rfl) (.v (fun _ f => .nilCheck rfl) (.v (fun _ f => .fieldAddr rfl) (.v (fun _ f => .load (v := .slice (some ⟨t1, z1, none⟩) d1.length kD1) rfl (.one (hb := .sub f) rfl)) (.v (fun _ f => .move rfl) (.v (fun _ f => .indexAddr rfl rfl (by omega) (by omega)) (.v (fun _ f => .fieldAddr rfl) (.v (fun hs' f => .load (v := .int .u64 x.q) rfl (hfl hs' (fun y hy => f (by simp at hy; subst hy; simp)) 4 _ rfl)) (.v (fun _ f => .move rfl) (.v (fun _ f => .nilCheck rfl) (.v (fun _ f => .fieldAddr rfl) (.v (fun _ f => .load (v := .slice (some ⟨t2, z2, none⟩) d2.length kD2) rfl (.one (hb := .sub f) rfl)) (.v (fun _ f => .move rfl) (.v (fun _ f => .indexAddr rfl rfl (by omega) (by omega)) (.v (fun _ f => .fieldAddr rfl) (.v (fun hs' f => .load (v := .int .u64 y.q) rfl (hfm hs' (fun y hy => f (by simp at hy; subst hy; simp)) 4 _ rfl)) (.v (fun _ f => .nei rfl rfl) (.nil ⟨rfl, rfl, rfl, rfl⟩)))))))))))))))))) (.nil ?_)))))))))))))
          rw [e3, e4, e5]
          refine .cond rfl (fun g => absurd g (by simp; omega)) (fun _ => .skip ?_)
          refine .region (.v (.move rfl) (.v (.addi rfl rfl (by omega)) (.v (.assign rfl) (.nil ?_))))
          refine .region (.v (.move rfl) (.v (.addi rfl rfl (by omega)) (.v (.assign rfl) (.nil ?_))))
          exact ⟨(j + 1, k + 1), ⟨by dsimp only; omega, by dsimp only; omega, e2⟩, by dsimp only; omega, (.cons rfl (.cons rfl (.cons rfl (.cons rfl (.nil _))))), fun _ s => s⟩
    · have hje : j = d1.length := by omega
      rw [hje, List.drop_eq_nil_of_le (Nat.le_refl _)] at ht
      refine .seq (.block (.loop (X := Nat) (fun k => [(11, .pointer (some ⟨s2, 0, none⟩)), (16, .int .i64 k)]) (fun _ => Sw s2 p2 c2 (.slice AD2 d2.length kD2) (.slice AP2 ps2.length kP2) hD2 hP2 ps2 ++ Sw s1 p1 c1 (.slice AD1 d1.length kD1) (.slice AP1 ps1.length kP1) hD1 hP1 ps1) (fun k => k ≤ d2.length ∧ tds [] = tds (d2.drop k)) (fun k => d2.length - k) k ⟨hk, ht⟩ (.cons rfl (.cons rfl (.nil _))) (fun _ s => s) ?_))
      clear hk ht
      rintro k ⟨hk, ht⟩
      by_cases hkl : k < d2.length
      case neg =>
        refine .seq (.seq ((.region (.v (.move rfl) (.v (.move rfl) (.v (.nilCheck rfl) (.v (.fieldAddr rfl) (.v (.load (v := .slice AD2 d2.length kD2) rfl (.one rfl)) (.v (.len rfl) (.v (.lss rfl rfl) (.v (.move rfl) (.and (b2 := false) 278 287 9 9 rfl rfl (fun g11 => absurd (of_decide_eq_true g11) (by omega)) (.nil ?_)))))))))))))
        refine .cond rfl (fun g => absurd g (by simp)) (fun _ => .exit ?_)
        have hke : k = d2.length := by omega
        refine .seq ((.region (.v (.move rfl) (.v (.move rfl) (.v (.nilCheck rfl) (.v (.fieldAddr rfl) (.v (.load (v := .slice AD2 d2.length kD2) rfl (.one rfl)) (.v (.len rfl) (.v (.eqi rfl rfl) (.v (.assign rfl) (.nil ?_)))))))))))
        exact .ret ⟨[_], ⟨rfl, trivial⟩, by rw [hke]; simp [tup]⟩
      obtain ⟨t2, z2, y2, rfl, -, rfl, -, -, -⟩ := OwnS.some_ oD2 (by omega)
      have hfm := fun hs' hsub q (v : Value) (hv : (d2[k].cells)[q]? = some v) => fldAt Dt.cells 6 (fun _ => rfl) (z := (k : Int)) (OwnS.at0 (w0 := w) (own := []) (hs := hs') oD2 hsub) hkl q hv
      have htk := tds_at hkl
      generalize d2[k] = y at hfm htk
      refine .seq (.seq ((.region (.v (.move rfl) (.v (.move rfl) (.v (.nilCheck rfl) (.v (.fieldAddr rfl) (.v (.load (v := .slice (some ⟨t2, z2, none⟩) d2.length kD2) rfl (.one rfl)) (.v (.len rfl) (.v (.lss rfl rfl) (.v (.move rfl) (.and 278 287 9 9 rfl rfl (fun g11 => .v (.move rfl) (.v (.nilCheck rfl) (.v (.fieldAddr rfl) (.v (.load (v := .slice (some ⟨t2, z2, none⟩) d2.length kD2) rfl (.one rfl)) (.v (.move rfl) (.v (.indexAddr rfl rfl (by omega) (by omega)) (.v (.fieldAddr rfl) (.v (.load (v := .int .i64 y.k) rfl (hfm _ (fun y hy => by simp at hy; subst hy; simp) 1 _ rfl)) (.v (.nei rfl rfl) (.nil ⟨rfl, rfl, rfl, rfl⟩)))))))))) (.nil ?_)))))))))))))
      refine .cond rfl (fun g => .skip ?_) (fun g => ?_)
      · simp only [Bool.and_eq_true, decide_eq_true_eq] at g
        rw [if_neg g.2] at htk
        refine .block ((.region (.v (.move rfl) (.v (.addi rfl rfl (by omega)) (.v (.assign rfl) (.nil ?_))))))
        exact ⟨k + 1, ⟨by omega, by rw [← htk]; exact ht⟩, by omega, (.cons rfl (.cons rfl (.nil _))), fun _ s => s⟩
      · exfalso
        have hy2 : y.k = 2 := by
          by_cases h : y.k = 2
          · exact h
          · exfalso; rw [decide_eq_true (show (k : Int) < (d2.length : Nat) by omega), decide_eq_true h] at g; cases g
        rw [if_pos hy2, ← ht] at htk
        cases htk
end Go.Proofs.Ytinmhhonpflojaa

/- Commands and books as they come in. -/
namespace Go.Proofs.Ytinmhhonpflojaa
open Go.V Go.ChangeShapes Go.WideShapes Go.ChangeAt
set_option linter.unusedVariables false
set_option linter.unusedSimpArgs false

def I64 (x : Int) : Prop := -9223372036854775808 ≤ x ∧ x ≤ 9223372036854775807
def U32 (x : Int) : Prop := 0 ≤ x ∧ x ≤ 4294967295
theorem wf_i64 {n : Int} (h : (Lit.int .i64 n).wf = true) : I64 n := by
  simp [Lit.wf, IntKind.min, IntKind.max, IntKind.bits, IntKind.signed] at h; unfold I64; omega
theorem wf_u64 {n : Int} (h : (Lit.int .u64 n).wf = true) : U n := by
  simp [Lit.wf, IntKind.min, IntKind.max, IntKind.bits, IntKind.signed] at h; unfold U; omega
theorem wf_u32 {n : Int} (h : (Lit.int .u32 n).wf = true) : U32 n := by
  simp [Lit.wf, IntKind.min, IntKind.max, IntKind.bits, IntKind.signed] at h; unfold U32; omega
/-- an order's fields are in their kinds -/
def Ord.ok (o : Ord) : Prop := U o.id ∧ U32 o.mb ∧ I64 o.ty ∧ I64 o.pr ∧ U o.v ∧ U o.hd ∧ U o.pk
theorem Ord.ok.wf {o : Ord} (h : o.ok) : o.wf := ⟨h.1, h.2.2.2.2.1, h.2.2.2.2.2.1, h.2.2.2.2.2.2⟩
theorem okw_ord {cs : List Value} (h : okw OL cs) : ∃ o : Ord, cs = o.cells ∧ o.ok := by
  match cs, h with
  | [.int _ a, .int _ b, .int _ c, .int _ d, .int _ e, .int _ f, .int _ g], ⟨⟨h1, w1⟩, ⟨h2, w2⟩, ⟨h3, w3⟩, ⟨h4, w4⟩, ⟨h5, w5⟩, ⟨h6, w6⟩, ⟨h7, w7⟩, _⟩ =>
    subst h1; subst h2; subst h3; subst h4; subst h5; subst h6; subst h7
    exact ⟨⟨a, b, c, d, e, f, g⟩, rfl, wf_u64 w1, wf_u32 w2, wf_i64 w3, wf_i64 w4, wf_u64 w5, wf_u64 w6, wf_u64 w7⟩
abbrev CL : List Lf := [.i .i64, .i .u64, .i .u64, .i .u32, .i .i64, .i .i64, .i .i64, .i .u64, .i .u64]
def Cmd (k id tg mb sd ty pr q pk : Int) : Prop := I64 k ∧ U id ∧ U tg ∧ U32 mb ∧ I64 sd ∧ I64 ty ∧ I64 pr ∧ U q ∧ U pk
theorem okw_cmd {cs : List Value} (h : okw CL cs) : ∃ k id tg mb sd ty pr q pk, cs = ccells k id tg mb sd ty pr q pk ∧ Cmd k id tg mb sd ty pr q pk := by
  match cs, h with
  | [.int _ a, .int _ b, .int _ c, .int _ d, .int _ e, .int _ f, .int _ g, .int _ i, .int _ j], ⟨⟨h1, w1⟩, ⟨h2, w2⟩, ⟨h3, w3⟩, ⟨h4, w4⟩, ⟨h5, w5⟩, ⟨h6, w6⟩, ⟨h7, w7⟩, ⟨h8, w8⟩, ⟨h9, w9⟩, _⟩ =>
    subst h1; subst h2; subst h3; subst h4; subst h5; subst h6; subst h7; subst h8; subst h9
    exact ⟨a, b, c, d, e, f, g, i, j, rfl, wf_i64 w1, wf_u64 w2, wf_u64 w3, wf_u32 w4, wf_i64 w5, wf_i64 w6, wf_i64 w7, wf_u64 w8, wf_u64 w9⟩
/-- a side, as it comes in -/
def Len {H : Type} (d : DataW H) (n : Nat) : Prop := d = .nil ∧ n = 0 ∨ ∃ es sp, d = .slice es sp ∧ es.length = n
section
variable {H : Type} {enc : TypeId × Value → H} {w : World} {base : Nat} {spare : Nat → Bool} {held : Bool}
theorem TC.side {cs : List Value} {d : DataW H} (h : TC enc Try.prog w base spare held 122 cs d) :
    ∃ A c, ∃ l : List Ord, cs = [.slice A l.length c] ∧ Rd w [] A (rows l) ∧ (∀ o ∈ l, o.ok) ∧ Len d l.length := by
  obtain ⟨A, c, rs, h1, h2, h3, h4⟩ := h.recs (e := 134) (ls := OL) (by kernel_rfl) (by kernel_rfl) (by kernel_rfl) (by decide)
  obtain ⟨l, rfl, hl⟩ := map_of (f := Ord.cells) (Q := Ord.ok) rs fun r hr => okw_ord (h2 r hr)
  refine ⟨A, c, l, by rw [h1, List.length_map], by rw [rows, List.flatMap_def]; exact h3, hl, ?_⟩
  rcases h4 with ⟨e1, e2⟩ | ⟨ds, sp, e1, e2⟩
  · exact .inl ⟨e1, by simpa using e2⟩
  · exact .inr ⟨ds, sp, e1, by simpa using e2⟩
set_option maxRecDepth 20000 in
theorem read_book {cs : List Value} {d : DataW H} (h : TC enc Try.prog w base spare held 124 cs d) :
    ∃ cap meet A1 c1 A2 c2 high seq, ∃ bs ss : List Ord, cs = bcells cap meet (.slice A1 bs.length c1) (.slice A2 ss.length c2) high seq ∧ I64 cap ∧ I64 meet ∧ U high ∧ U seq ∧ Rd w [] A1 (rows bs) ∧ Rd w [] A2 (rows ss) ∧ (∀ o ∈ bs ++ ss, o.ok) ∧
      ∃ dc d1 d2 dh dq, d = .agg [dc, d1, d2, dh, dq] ∧ Len d1 bs.length ∧ Len d2 ss.length := by
  obtain ⟨ds, rfl, hn, hl, hf⟩ := h.struct Try.underlying124
  match ds, hn with
  | [dc, d1, d2, dh, dq], _ =>
  match cs, hl with
  | [x0, x1, x2, x3, x4, x5], _ =>
  have f0 := (hf 0 _ dc rfl rfl).plain (ls := [.i .i64, .i .i64]) (by kernel_rfl) (by kernel_rfl)
  obtain ⟨A1, c1, bs, e1, r1, o1, n1⟩ := TC.side (hf 1 _ d1 rfl rfl)
  obtain ⟨A2, c2, ss, e2, r2, o2, n2⟩ := TC.side (hf 2 _ d2 rfl rfl)
  obtain ⟨high, e3, w3⟩ := (hf 3 _ dh rfl rfl).int (k := .u64) (by kernel_rfl)
  obtain ⟨seq, e4, w4⟩ := (hf 4 _ dq rfl rfl).int (k := .u64) (by kernel_rfl)
  have z2 : Try.prog.cellsOf 77 = 2 := by kernel_rfl
  have z1 : Try.prog.cellsOf 122 = 1 := by kernel_rfl
  have zu : Try.prog.cellsOf 22 = 1 := by kernel_rfl
  have g0 : okw [.i .i64, .i .i64] [x0, x1] := by simpa [z2] using f0
  have g1 : x2 = .slice A1 bs.length c1 := by simpa [z1] using e1
  have g2 : x3 = .slice A2 ss.length c2 := by simpa [z1] using e2
  have g3 : x4 = .int .u64 high := by simpa [zu] using e3
  have g4 : x5 = .int .u64 seq := by simpa [zu] using e4
  match x0, x1, g0 with
  | .int _ cap, .int _ meet, ⟨⟨p1, w1⟩, ⟨p2, w2⟩, _⟩ =>
    subst p1; subst p2; subst g1; subst g2; subst g3; subst g4
    exact ⟨cap, meet, A1, c1, A2, c2, high, seq, bs, ss, rfl, wf_i64 w1, wf_i64 w2, wf_u64 w3, wf_u64 w4, r1, r2, fun o ho => by rcases List.mem_append.1 ho with ho | ho; exact o1 o ho; exact o2 o ho, dc, d1, d2, dh, dq, rfl, n1, n2⟩
end
end Go.Proofs.Ytinmhhonpflojaa

/- Lists of commands, as they come in. -/
namespace Go.Proofs.Ytinmhhonpflojaa
open Go.V Go.ChangeShapes Go.WideShapes Go.ChangeAt
set_option linter.unusedVariables false

def Cm.ok (c : Cm) : Prop := Cmd c.k c.id c.tg c.mb c.sd c.ty c.pr c.q c.pk
theorem Cm.ok.wf {c : Cm} (h : c.ok) : c.wf := ⟨h.2.1, h.2.2.2.2.2.2.2.1, h.2.2.2.2.2.2.2.2⟩
theorem okw_cm {cs : List Value} (h : okw CL cs) : ∃ c : Cm, cs = c.cells ∧ c.ok := by
  obtain ⟨k, id, tg, mb, sd, ty, pr, q, pk, rfl, hc⟩ := okw_cmd h
  exact ⟨⟨k, id, tg, mb, sd, ty, pr, q, pk⟩, rfl, hc⟩
theorem okw_cfg {cs : List Value} (h : okw [.i .i64, .i .i64] cs) : ∃ a b, cs = [.int .i64 a, .int .i64 b] ∧ I64 a ∧ I64 b := by
  match cs, h with
  | [.int _ a, .int _ b], ⟨⟨h1, w1⟩, ⟨h2, w2⟩, _⟩ => subst h1; subst h2; exact ⟨a, b, rfl, wf_i64 w1, wf_i64 w2⟩
section
variable {H : Type} {enc : TypeId × Value → H} {w : World} {base : Nat} {spare : Nat → Bool} {held : Bool}
theorem TC.cmds {cs : List Value} {d : DataW H} (h : TC enc Try.prog w base spare held 78 cs d) :
    ∃ A c, ∃ l : List Cm, cs = [.slice A l.length c] ∧ Rd w [] A (crows l) ∧ (∀ o ∈ l, o.ok) ∧ Len d l.length := by
  obtain ⟨A, c, rs, h1, h2, h3, h4⟩ := h.recs (e := 85) (ls := CL) (by kernel_rfl) (by kernel_rfl) (by kernel_rfl) (by decide)
  obtain ⟨l, rfl, hl⟩ := map_of (f := Cm.cells) (Q := Cm.ok) rs fun r hr => okw_cm (h2 r hr)
  refine ⟨A, c, l, by rw [h1, List.length_map], by rw [crows, List.flatMap_def]; exact h3, hl, ?_⟩
  rcases h4 with ⟨e1, e2⟩ | ⟨ds, sp, e1, e2⟩
  · exact .inl ⟨e1, by simpa using e2⟩
  · exact .inr ⟨ds, sp, e1, by simpa using e2⟩
end
end Go.Proofs.Ytinmhhonpflojaa

/- Commands as they come in, with their bound by bulk. -/
namespace Go.Proofs.Ytinmhhonpflojaa
open Go.V Go.ChangeShapes Go.WideShapes Go.ChangeAt
set_option linter.unusedVariables false
set_option linter.unusedSimpArgs false
theorem sum_two {α : Type} : ∀ l : List α, (l.map fun _ => 2).sum = 2 * l.length
  | [] => rfl
  | a :: l => by rw [List.map_cons, List.sum_cons, sum_two l, List.length_cons]; omega
theorem read_cmdsU {H : Type} {enc : TypeId × Value → H} {w : World} {base : Nat} {spare : Nat → Bool} {held : Bool} {cs : List Value} {d : DataW H} (h : TC enc Try.prog w base spare held 78 cs d) :
    ∃ A c, ∃ l : List Cm, cs = [.slice A l.length c] ∧ Rd w [] A (crows l) ∧ (∀ o ∈ l, o.ok) ∧ 2 * l.length ≤ Rows.uptoBulk d := by
  obtain ⟨A, cap, l, h1, h2, h3, h4, h5, h6⟩ := TC.listN Cm.cells (fun x di => x.ok ∧ 2 ≤ Rows.uptoBulk di) (m := CL.length) Try.underlying78 (by kernel_rfl) (by decide) (fun c di hc => by
    obtain ⟨es, he1, he2, -, he3⟩ := hc.struct Try.underlying85
    obtain ⟨x, hx, ho⟩ := okw_cm (hc.plain (ls := CL) (by kernel_rfl) (by kernel_rfl))
    have hb := bulk_len es
    have hl : es.length = 9 := he2
    exact ⟨x, hx, ho, by rw [he1]; simp only [Rows.uptoBulk]; omega⟩) h
  refine ⟨A, cap, l, h1, by unfold crows; exact h2, fun o ho => by obtain ⟨_, ⟨hq, _⟩, _⟩ := h5 o ho; exact hq, ?_⟩
  have := h6 (fun _ => 2) (fun x di hq => hq.2)
  rw [sum_two] at this
  exact this
end Go.Proofs.Ytinmhhonpflojaa
