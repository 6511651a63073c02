/- Texts that the row RSurvAll stands on: SoPdq, VZ, VZD, VZE, VZS, SoKeys, SVRef3, SVRef4, SVRef5, SVRef6, SVRef7, SVRef8, SVRef9. -/
import Derived.Test.YtcbppikkoelimaaYSurvAllD
import Derived.Test.YtcbppikkoelimaaYSurvAllC
import Derived.RangeFuncRecord
import Derived.RangeFuncCalls
import Derived.OrdersIn
import Derived.Test.YtcbppikkoelimaaYSurvAllB
/- slices.pdqsortOrdered, Sort at uint32 (printed by wip/gen/gen_pdq.py). -/
namespace Go.Proofs.Ytcbppikkoelimaa
open Go.V
open Go.Sort (ltInt swp insertionSort heapSort reverseRange choosePivot partition partitionEqual partialInsertionSort PermIn SortedIn Below permIn_trans permIn_refl swo_ltInt)
set_option linter.unusedVariables false
set_option linter.unusedSimpArgs false
structure DS where
  a : Nat
  e : Nat
  t : Nat
  wb : Bool
  wp : Bool
  d : Array Int
  l : List Value
structure RS where
  p : Nat
  h : Int
  d : Array Int
  l : List Value
abbrev PdqR (b o c n a e : Nat) (d : Array Int) (hs : Hp) : Prop := ∃ d' l', hs = [(b, .cells l' 25)] ∧ So32 b o c n d' l' ∧ PermIn a e d d' ∧ SortedIn ltInt a e d'
set_option maxRecDepth 20000 in
theorem pdq32_ok : ∀ (N : Nat) (w : World) {b o c n : Nat} {d : Array Int} {l : List Value} (k : So32 b o c n d l) (a e t : Nat) (hN : e - a ≤ N) (hae : a ≤ e) (he : e ≤ n) (hn : n < 2305843009213693952) (ht : t < 2305843009213693952) (hB : Below ltInt a e d),
    Does Try.prog 84 [.slice (some ⟨b, o, none⟩) n c, .int .i64 a, .int .i64 e, .int .i64 t] [(b, .cells l 25)] w (fun _ hs => PdqR b o c n a e d hs) := by
  intro N
  induction N using Nat.strongRecOn with
  | ind N IH =>
  intro w b o c n d l k a e t hN hae he hn ht hB
  refine Does.of (n := 134) Try.func84 rfl rfl rfl rfl ?_
  refine .seq ((.region (.v (.assign rfl) (.nil ?_))))
  refine .seq ((.region (.v (.assign rfl) (.nil ?_))))
  refine .block (.loop (X := DS) (fun x => [(0, .slice (some ⟨b, o, none⟩) n c), (1, .int .i64 x.a), (2, .int .i64 x.e), (3, .int .i64 x.t), (8, .bool x.wb), (9, .bool x.wp)]) (fun x => [(b, .cells x.l 25)]) (fun x => (x.a ≤ x.e ∧ x.e ≤ n ∧ x.e - x.a ≤ N ∧ x.t < 2305843009213693952) ∧ So32 b o c n x.d x.l ∧ Below ltInt x.a x.e x.d ∧ ∀ R, PermIn x.a x.e x.d R → SortedIn ltInt x.a x.e R → PermIn a e d R ∧ SortedIn ltInt a e R) (fun x => x.e - x.a) ⟨a, e, t, true, true, d, l⟩ ⟨⟨hae, he, hN, ht⟩, k, hB, fun R h1 h2 => ⟨h1, h2⟩⟩ (.cons rfl (.cons rfl (.cons rfl (.cons rfl (.cons rfl (.cons rfl (.nil _))))))) (fun _ s => s) ?_)
  clear hN hae he ht hB k
  rintro ⟨a1, e1, t1, wb, wp, d1, l1⟩ ⟨⟨hae, he, hN, ht⟩, k1, hB, hC⟩
  dsimp only at hae he hN ht k1 hB hC ⊢
  have z1 : e1 ≤ d1.size := by rw [k1.sz]; exact he
  refine .block (.seq ((.region (.v (.move rfl) (.v (.move rfl) (.v (.subE ((e1 - a1 : Nat) : Int) rfl rfl (by omega) (by omega)) (.v (.assign rfl) (.nil ?_))))))))
  refine .seq (.seq ((.region (.v (.move rfl) (.v (.leq rfl rfl) (.nil ?_))))))
  refine .cond_dec rfl (fun h1 => ?_) (fun h1 => .skip ?_)
  · refine .seq ((.region (.v (.move rfl) (.v (.move rfl) (.v (.move rfl) ?_)))))
    refine .ef (.callT [(b, .cells l1 25)] rfl rfl fun w s => ins32_ok w k1 a1 e1 he (by omega) (by omega)) ?_
    rintro _ _ ⟨_, ⟨l2, rfl, k2⟩, rfl⟩
    obtain ⟨p2, s2⟩ := Go.Sort.insertionSort_holds (lt := ltInt) swo_ltInt d1 a1 e1 hae z1
    refine .nil ?_
    exact .ret ⟨[], trivial, _, l2, rfl, k2, hC _ p2 s2⟩
  refine .seq (.seq ((.region (.v (.move rfl) (.v (.eqi rfl rfl) (.nil ?_))))))
  refine .cond_dec rfl (fun h2 => ?_) (fun h2 => .skip ?_)
  · refine .seq ((.region (.v (.move rfl) (.v (.move rfl) (.v (.move rfl) ?_)))))
    refine .ef (.callT [(b, .cells l1 25)] rfl rfl fun w s => heap32_ok w k1 a1 e1 hae he hn) ?_
    rintro _ _ ⟨_, ⟨l2, rfl, k2⟩, rfl⟩
    obtain ⟨p2, s2⟩ := Go.Sort.heapSort_holds (lt := ltInt) swo_ltInt d1 a1 e1 hae z1
    refine .nil ?_
    exact .ret ⟨[], trivial, _, l2, rfl, k2, hC _ p2 s2⟩
  refine .mid (X := RS) (fun x => [(0, .slice (some ⟨b, o, none⟩) n c), (1, .int .i64 a1), (2, .int .i64 e1), (3, .int .i64 x.p), (8, .bool wb), (9, .bool wp), (10, .int .i64 ((e1 - a1 : Nat) : Int))]) (fun x => [(b, .cells x.l 25)]) (fun x => x.p < 2305843009213693952 ∧ So32 b o c n x.d x.l ∧ PermIn a1 e1 d1 x.d) (.seq ((.region (.v (.move rfl) (.v (.not rfl) (.nil ?_)))))) ?_
  · refine .cond rfl (fun h3 => ?_) (fun h3 => .skip ?_)
    · refine .seq ((.region (.v (.move rfl) (.v (.move rfl) (.v (.move rfl) ?_)))))
      refine .ef (.callT [(b, .cells l1 25)] rfl rfl fun w s => break32_ok w k1 a1 e1 hae he hn) ?_
      rintro _ _ ⟨_, ⟨d2, l2, rfl, k2, p2⟩, rfl⟩
      refine .nil ?_
      refine .region (.v (.move rfl) (.v (.subE ((t1 - 1 : Nat) : Int) rfl rfl (by omega) (by omega)) (.v (.assign rfl) (.nil ?_))))
      exact ⟨⟨t1 - 1, 0, d2, l2⟩, ⟨by show t1 - 1 < _; omega, k2, p2⟩, .cons rfl (.cons rfl (.cons rfl (.cons rfl (.cons rfl (.cons rfl (.cons rfl (.nil _))))))), fun _ s => s.take⟩
    · exact ⟨⟨t1, 0, d1, l1⟩, ⟨ht, k1, permIn_refl d1 a1 e1⟩, .cons rfl (.cons rfl (.cons rfl (.cons rfl (.cons rfl (.cons rfl (.cons rfl (.nil _))))))), fun _ s => s⟩
  rintro ⟨t2, _, d2, l2⟩ ⟨ht2, k2, p2⟩
  dsimp only at ht2 k2 p2 ⊢
  have z2 : e1 ≤ d2.size := by rw [k2.sz]; exact he
  refine .seq ((.region (.v (.move rfl) (.v (.move rfl) (.v (.move rfl) ?_)))))
  refine .ef (.call0 rfl rfl fun w s => choose32_ok w k2.sz (OwnS.rd k2.own s (no := []) (fun y hy => by simp at hy; subst hy; simp) (by simp)) a1 e1 (by omega) he hn) ?_
  rintro _ _ ⟨_, ⟨rfl, rfl⟩, rfl⟩
  have hc := Go.Sort.choosePivot_holds ltInt d2 a1 e1 (by omega)
  refine .v (.move rfl) (.v (.extract rfl rfl) (.v (.extract rfl rfl) (.v (.assign rfl) (.v (.assign rfl) (.nil ?_)))))
  generalize choosePivot ltInt d2 a1 e1 = cp at hc ⊢
  obtain ⟨pv, hint⟩ := cp
  dsimp only at hc ⊢
  generalize hintV hint = hv
  refine .mid (X := RS) (fun x => [(0, .slice (some ⟨b, o, none⟩) n c), (1, .int .i64 a1), (2, .int .i64 e1), (3, .int .i64 t2), (8, .bool wb), (9, .bool wp), (10, .int .i64 ((e1 - a1 : Nat) : Int)), (11, .int .i64 x.p), (12, .int .i64 x.h)]) (fun x => [(b, .cells x.l 25)]) (fun x => (a1 ≤ x.p ∧ x.p < e1) ∧ So32 b o c n x.d x.l ∧ PermIn a1 e1 d1 x.d) (.seq ((.region (.v (.move rfl) (.v (.eqi rfl rfl) (.nil ?_)))))) ?_
  · refine .cond_dec rfl (fun h4 => ?_) (fun h4 => .skip ?_)
    · refine .seq ((.region (.v (.move rfl) (.v (.move rfl) (.v (.move rfl) ?_)))))
      refine .ef (.callT [(b, .cells l2 25)] rfl rfl fun w s => rev32_ok w k2 a1 e1 (by omega) he hn) ?_
      rintro _ _ ⟨_, ⟨l3, rfl, k3⟩, rfl⟩
      have p3 := Go.Sort.reverseRange_holds d2 a1 e1 hae z2
      refine .nil ?_
      refine .seq ((.region (.v (.move rfl) (.v (.subE ((e1 - 1 : Nat) : Int) rfl rfl (by omega) (by omega)) (.v (.move rfl) (.v (.move rfl) (.v (.subE ((pv - a1 : Nat) : Int) rfl rfl (by omega) (by omega)) (.v (.subE ((e1 - 1 - (pv - a1) : Nat) : Int) rfl rfl (by omega) (by omega)) (.v (.assign rfl) (.nil ?_))))))))))
      refine .region (.v (.assign rfl) (.nil ?_))
      exact ⟨⟨e1 - 1 - (pv - a1), 1, _, l3⟩, ⟨⟨by show a1 ≤ e1 - 1 - (pv - a1); omega, by show e1 - 1 - (pv - a1) < e1; omega⟩, k3, permIn_trans _ _ _ _ _ p2 p3⟩, .cons rfl (.cons rfl (.cons rfl (.cons rfl (.cons rfl (.cons rfl (.cons rfl (.cons rfl (.cons rfl (.nil _))))))))), fun _ s => s.take⟩
    · exact ⟨⟨pv, hv, d2, l2⟩, ⟨hc, k2, p2⟩, .cons rfl (.cons rfl (.cons rfl (.cons rfl (.cons rfl (.cons rfl (.cons rfl (.cons rfl (.cons rfl (.nil _))))))))), fun _ s => s.take⟩
  clear hc k2 p2 z2
  rintro ⟨p, hv, d3, l3⟩ ⟨⟨hp1, hp2⟩, k3, p3⟩
  dsimp only at hp1 hp2 k3 p3 ⊢
  have z3 : e1 ≤ d3.size := by rw [k3.sz]; exact he
  have B3 := hB.perm z1 p3
  refine .mid (X := RS) (fun x => [(0, .slice (some ⟨b, o, none⟩) n c), (1, .int .i64 a1), (2, .int .i64 e1), (3, .int .i64 t2), (8, .bool wb), (9, .bool wp), (10, .int .i64 ((e1 - a1 : Nat) : Int)), (11, .int .i64 p)]) (fun x => [(b, .cells x.l 25)]) (fun x => So32 b o c n x.d x.l ∧ PermIn a1 e1 d1 x.d) (.seq ((.region (.v (.move rfl) (.v (.move rfl) (.and (b2 := wp) 62 63 1 1 rfl rfl (fun g1 => .v (.move rfl) (.nil ⟨rfl, rfl, rfl, rfl⟩)) (.v (.move rfl) (.and (b2 := decide (hv = 1)) 65 67 2 2 rfl rfl (fun g2 => .v (.move rfl) (.v (.eqi rfl rfl) (.nil ⟨rfl, rfl, rfl, rfl⟩))) (.nil ?_))))))))) ?_
  · refine .cond rfl (fun h5 => ?_) (fun h5 => .skip ?_)
    · refine .seq ((.region (.v (.move rfl) (.v (.move rfl) (.v (.move rfl) ?_)))))
      refine .ef (.callT [(b, .cells l3 25)] rfl rfl fun w s => partial32_ok w k3 a1 e1 (by omega) he hn) ?_
      rintro _ _ ⟨_, ⟨l4, rfl, rfl, k4⟩, rfl⟩
      obtain ⟨p4, s4⟩ := Go.Sort.partialInsertionSort_holds (lt := ltInt) swo_ltInt d3 a1 e1 (by omega) z3 B3
      refine .nil ?_
      refine .cond rfl (fun h6 => ?_) (fun h6 => .skip ?_)
      · exact .ret ⟨[], trivial, _, l4, rfl, k4, hC _ (permIn_trans _ _ _ _ _ p3 p4) (s4 h6)⟩
      · exact ⟨⟨0, 0, _, l4⟩, ⟨k4, permIn_trans _ _ _ _ _ p3 p4⟩, .cons rfl (.cons rfl (.cons rfl (.cons rfl (.cons rfl (.cons rfl (.cons rfl (.cons rfl (.nil _)))))))), fun _ s => s.take⟩
    · exact ⟨⟨0, 0, d3, l3⟩, ⟨k3, p3⟩, .cons rfl (.cons rfl (.cons rfl (.cons rfl (.cons rfl (.cons rfl (.cons rfl (.cons rfl (.nil _)))))))), fun _ s => s⟩
  clear k3 p3 z3 B3 h1 h2
  rintro ⟨_, _, d3, l3⟩ ⟨k3, p3⟩
  dsimp only at k3 p3 ⊢
  have z3 : e1 ≤ d3.size := by rw [k3.sz]; exact he
  have B3 := hB.perm z1 p3
  refine .mid (X := Unit) (fun _ => [(0, .slice (some ⟨b, o, none⟩) n c), (1, .int .i64 a1), (2, .int .i64 e1), (3, .int .i64 t2), (8, .bool wb), (9, .bool wp), (10, .int .i64 ((e1 - a1 : Nat) : Int)), (11, .int .i64 p)]) (fun _ => [(b, .cells l3 25)]) (fun _ => True) (.seq (.drawK [(b, .cells l3 25)] (fun _ h => h) (by kernel_rfl) (by kernel_rfl) ?_)) ?_
  · by_cases hg : 0 < a1
    case neg =>
      refine .v (fun _ f => .move rfl) (.v (fun _ f => .no (.gtr rfl rfl) (by omega)) (.v (fun _ f => .move rfl) (.and (b2 := true) 75 86 11 11 rfl rfl (fun g1 => absurd g1 (by simp)) (.nil ?_))))
      refine .cond_false rfl (.skip ?_)
      exact ⟨(), trivial, .cons rfl (.cons rfl (.cons rfl (.cons rfl (.cons rfl (.cons rfl (.cons rfl (.cons rfl (.nil _)))))))), fun _ s => s⟩
    have q0 := fun hs' hsub => k3.at_ (w0 := w) (own := [b]) (hs := hs') (i := a1 - 1) (by omega) hsub
    have q1 := fun hs' hsub => k3.at_ (w0 := w) (own := [b]) (hs := hs') (i := p) (by omega) hsub
    refine .v (fun _ f => .move rfl) (.v (fun _ f => .yes (.gtr rfl rfl) (by omega)) (.v (fun _ f => .move rfl) (.and (b2 := !ltInt d3[a1 - 1]! d3[p]!) 75 86 11 11 rfl rfl (fun g1 => .v (fun _ f => .move rfl) (.v (fun _ f => .move rfl) (.v (fun _ f => .subE ((a1 - 1 : Nat) : Int) rfl rfl (by omega) (by omega)) (.v (fun _ f => .indexN (a1 - 1) rfl rfl (by omega)) (.v (fun hs' f => .load (v := .int .u32 d3[a1 - 1]!) rfl (q0 hs' f)) (.v (fun _ f => .move rfl) (.v (fun _ f => .move rfl) (.v (fun _ f => .indexN p rfl rfl (by omega)) (.v (fun hs' f => .load (v := .int .u32 d3[p]!) rfl (q1 hs' f)) (.pc rfl rfl (fun w s => less32_ok w _ _) (.v (fun _ f => .not rfl) (.nil ⟨rfl, rfl, rfl, rfl⟩)))))))))))) (.nil ?_))))
    refine .cond rfl (fun h7 => ?_) (fun h7 => .skip ?_)
    · have h7' : ltInt d3[a1 - 1]! d3[p]! = false := by simpa using h7
      obtain ⟨r1, r2, r3, r4, r5⟩ := Go.Sort.round_eq (lt := ltInt) swo_ltInt (Go.Sort.partitionEqual_holds _) hg hp1 hp2 z3 B3 h7' (mid := (partitionEqual ltInt d3 a1 e1 p).1) (d4 := (partitionEqual ltInt d3 a1 e1 p).2) rfl
      refine .seq ((.region (.v (.move rfl) (.v (.move rfl) (.v (.move rfl) (.v (.move rfl) ?_))))))
      refine .ef (.callT [(b, .cells l3 25)] rfl rfl fun w s => partEq32_ok w k3 a1 e1 p hp1 hp2 he hn) ?_
      generalize partitionEqual ltInt d3 a1 e1 p = pe at r1 r2 r3 r4 r5
      rintro _ _ ⟨_, ⟨l4, rfl, rfl, k4⟩, rfl⟩
      refine .v (.assign rfl) (.nil ?_)
      refine .seq ((.region (.v (.move rfl) (.v (.assign rfl) (.nil ?_)))))
      refine .exit ?_
      exact ⟨⟨pe.1, e1, t2, wb, wp, pe.2, l4⟩, ⟨⟨r2, he, by show e1 - pe.1 ≤ N; omega, ht2⟩, k4, r4, fun R u1 u2 => by obtain ⟨v1, v2⟩ := r5 R u1 u2; exact hC R (permIn_trans _ _ _ _ _ p3 v1) v2⟩, by show e1 - pe.1 < e1 - a1; omega, .cons rfl (.cons rfl (.cons rfl (.cons rfl (.cons rfl (.cons rfl (.nil _)))))), fun _ s => s.take⟩
    · exact ⟨(), trivial, .cons rfl (.cons rfl (.cons rfl (.cons rfl (.cons rfl (.cons rfl (.cons rfl (.cons rfl (.nil _)))))))), fun _ s => s⟩
  rintro _ _
  try dsimp only
  obtain ⟨r1, r2, r3, r4, r5, r6, r7⟩ := Go.Sort.round_part (lt := ltInt) swo_ltInt (Go.Sort.partition_holds _) hp1 hp2 z3 B3 (mid := (partition ltInt d3 a1 e1 p).1) (ap := (partition ltInt d3 a1 e1 p).2.1) (d4 := (partition ltInt d3 a1 e1 p).2.2) rfl
  refine .seq ((.region (.v (.move rfl) (.v (.move rfl) (.v (.move rfl) (.v (.move rfl) ?_))))))
  refine .ef (.callT [(b, .cells l3 25)] rfl rfl fun w s => partition32_ok w k3 a1 e1 p hp1 hp2 he hn) ?_
  generalize partition ltInt d3 a1 e1 p = pe at r1 r2 r3 r4 r5 r6 r7
  obtain ⟨m, _, d4⟩ := pe
  dsimp only at r1 r2 r3 r4 r5 r6 r7
  rintro _ _ ⟨_, ⟨l4, f, rfl, rfl, k4⟩, rfl⟩
  dsimp only at k4
  have z4 : e1 ≤ d4.size := by rw [k4.sz]; exact he
  refine .v (.move rfl) (.v (.extract rfl rfl) (.v (.extract rfl rfl) (.v (.assign rfl) (.v (.assign rfl) (.nil ?_)))))
  refine .seq ((.region (.v (.move rfl) (.v (.assign rfl) (.nil ?_)))))
  refine .seq ((.region (.v (.move rfl) (.v (.move rfl) (.v (.subE ((m - a1 : Nat) : Int) rfl rfl (by omega) (by omega)) (.v (.move rfl) (.v (.move rfl) (.v (.subE ((e1 - m : Nat) : Int) rfl rfl (by omega) (by omega)) (.v (.assign rfl) (.v (.assign rfl) (.nil ?_)))))))))))
  refine .seq ((.region (.v (.move rfl) (.v (.quoN ((e1 - a1) / 8) rfl rfl (by decide) rfl (by omega) (by omega)) (.v (.assign rfl) (.nil ?_))))))
  refine .seq ((.region (.v (.move rfl) (.v (.move rfl) (.v (.lss rfl rfl) (.nil ?_))))))
  refine .cond_dec rfl (fun h8 => ?_) (fun h8 => ?_)
  · refine .seq ((.region (.v (.move rfl) (.v (.move rfl) (.v (.geq rfl rfl) (.v (.assign rfl) (.nil ?_)))))))
    refine .seq ((.region (.v (.move rfl) (.v (.move rfl) (.v (.move rfl) (.v (.move rfl) ?_))))))
    refine .ef (.callT [(b, .cells l4 25)] rfl rfl fun w s => IH (m - a1) (by omega) w k4 a1 m t2 (Nat.le_refl _) r1 (by omega) hn ht2 r4) ?_
    rintro _ _ ⟨_, ⟨d5, l5, rfl, k5, p5, s5⟩, rfl⟩
    obtain ⟨u1, u2⟩ := r6 d5 p5 s5
    refine .nil ?_
    refine .region (.v (.move rfl) (.v (.addE ((m + 1 : Nat) : Int) rfl rfl (by omega) (by omega)) (.v (.assign rfl) (.nil ?_))))
    exact ⟨⟨m + 1, e1, t2, _, f, d5, l5⟩, ⟨⟨by show m + 1 ≤ e1; omega, he, by show e1 - (m + 1) ≤ N; omega, ht2⟩, k5, u1, fun R v1 v2 => by obtain ⟨x1, x2⟩ := u2 R v1 v2; exact hC R (permIn_trans _ _ _ _ _ p3 x1) x2⟩, by show e1 - (m + 1) < e1 - a1; omega, .cons rfl (.cons rfl (.cons rfl (.cons rfl (.cons rfl (.cons rfl (.nil _)))))), fun _ s => s.take⟩
  · refine .seq ((.region (.v (.move rfl) (.v (.move rfl) (.v (.geq rfl rfl) (.v (.assign rfl) (.nil ?_)))))))
    refine .seq ((.region (.v (.move rfl) (.v (.move rfl) (.v (.addE ((m + 1 : Nat) : Int) rfl rfl (by omega) (by omega)) (.v (.move rfl) (.v (.move rfl) ?_)))))))
    refine .ef (.callT [(b, .cells l4 25)] rfl rfl fun w s => IH (e1 - (m + 1)) (by omega) w k4 (m + 1) e1 t2 (Nat.le_refl _) (by omega) he hn ht2 r5) ?_
    rintro _ _ ⟨_, ⟨d5, l5, rfl, k5, p5, s5⟩, rfl⟩
    obtain ⟨u1, u2⟩ := r7 d5 p5 s5
    refine .nil ?_
    refine .region (.v (.move rfl) (.v (.assign rfl) (.nil ?_)))
    exact ⟨⟨a1, m, t2, _, f, d5, l5⟩, ⟨⟨r1, by show m ≤ n; omega, by show m - a1 ≤ N; omega, ht2⟩, k5, u1, fun R v1 v2 => by obtain ⟨x1, x2⟩ := u2 R v1 v2; exact hC R (permIn_trans _ _ _ _ _ p3 x1) x2⟩, by show m - a1 < e1 - a1; omega, .cons rfl (.cons rfl (.cons rfl (.cons rfl (.cons rfl (.cons rfl (.nil _)))))), fun _ s => s.take⟩
/-- what sorting makes of a row of numbers -/
def srt (z : List Int) : List Int := z.mergeSort (fun x y => !ltInt y x)
theorem srt_len (z : List Int) : (srt z).length = z.length := List.length_mergeSort ..
set_option maxRecDepth 20000 in
theorem sort32_ok (w : World) {b o c : Nat} {z : List Int} {l : List Value} (k : OwnS 25 1 (.slice (some ⟨b, o, none⟩) z.length c) z.length (ints .u32 z) [(b, .cells l 25)]) (hn : z.length < 2305843009213693952) :
    Does Try.prog 77 [.slice (some ⟨b, o, none⟩) z.length c] [(b, .cells l 25)] w (fun _ hs => ∃ l', hs = [(b, .cells l' 25)] ∧ OwnS 25 1 (.slice (some ⟨b, o, none⟩) z.length c) z.length (ints .u32 (srt z)) [(b, .cells l' 25)]) := by
  have k0 : So32 b o c z.length z.toArray l := ⟨by simp, by simpa using k⟩
  refine Does.of (n := 11) Try.func77 rfl rfl rfl rfl ?_
  refine .seq ((.region (.v (.move rfl) (.v (.len rfl) (.v (.assign rfl) (.nil ?_))))))
  refine .region (.v (.move rfl) (.v (.move rfl) (.v (.move rfl) (.v (.convE (z.length : Int) rfl (wrap_u64_in (by omega))) ?_))))
  refine .ef (.call0 rfl rfl fun w s => len_ok w z.length (by omega)) ?_
  rintro _ _ ⟨_, ⟨t, h1, h2, rfl, rfl⟩, rfl⟩
  refine .ef (.callT [(b, .cells l 25)] rfl rfl fun w s => pdq32_ok z.length w k0 0 z.length t (Nat.le_refl _) (Nat.zero_le _) (Nat.le_refl _) hn (by omega) (.inl rfl)) ?_
  rintro _ _ ⟨_, ⟨d', l', rfl, k2, p2, s2⟩, rfl⟩
  refine .nil ?_
  have e1 := Go.Sort.sorted_unique_holds (lt := ltInt) swo_ltInt (fun x y h1 h2 => by simp [ltInt] at h1 h2; omega) z.toArray d' (by simpa using p2) (by simpa using s2)
  refine ⟨[], trivial, l', rfl, ?_⟩
  have := k2.own
  rw [e1] at this
  exact this
end Go.Proofs.Ytcbppikkoelimaa

/- VZ: functions that range over a function, and iterators that call 'yield': the rules of control inside a fence that lets all pass, in a round and outside. -/
namespace Go
namespace V
open Go.RowKit
set_option linter.unusedVariables false
set_option linter.unusedSimpArgs false

abbrev Rnd : Option Nat → Fence
  | none => Fence.wide
  | some l => Fence.wide.inRound l
theorem Rnd.fn (ro : Option Nat) (f : FuncId) : (Rnd ro).fn f := by cases ro <;> exact trivial
theorem Rnd.depth_ (ro : Option Nat) : (Rnd ro).depth = none := by cases ro <;> rfl
theorem Rnd.round_ (ro : Option Nat) : (Rnd ro).round = ro := by cases ro <;> rfl
theorem calls_rnd {P : Program} {f : FuncId} {args : Array Value} {w : World} {R : Ending → World → Prop} (ro : Option Nat) (n : Nat) (h : Calls P f args w R) : CallsIn (Rnd ro) n P f args w R := by
  cases ro with
  | none => exact callsIn_wide.2 h
  | some l => exact CallsIn.inRound l (callsIn_wide.2 h)
theorem rows_rnd {P : Program} {row : String} {args : Array Value} {w : World} {R : Value → World → Prop} (ro : Option Nat) (n : Nat) (h : Rows P row args w R) : RowsIn (Rnd ro) n P row args w R := by
  intro c cs _
  obtain ⟨v, w', r, s⟩ := h c cs
  refine ⟨v, w', r, ?_⟩
  cases ro with
  | none => exact stepsIn_wide.2 s
  | some l => exact stepsIn_wide.2 s

def ndOp : Op → Bool
  | .defer _ => false
  | _ => true
theorem ndOp_ne {o : Op} (h : ndOp o = true) : ∀ c, o ≠ .defer c := by
  intro c e; subst e; cases h
theorem semAt_nd {ro : Option Nat} {ρ : Operand → Value} {o : Oper} (h : ndOp o.op = true) : o.semAt ro ρ = execOp ρ o := by
  cases ro with
  | none => rfl
  | some l => exact Oper.semAt_some l ρ o (ndOp_ne h)
def ndB (l : List Oper) : Bool := l.all fun o => ndOp o.op

theorem lift_op {P : Program} {ro : Option Nat} {o : Oper} {a0 : Act} {ds : List Deferred} {w : World} {K K' : Act → World → Prop} {Q Q' : Exit → Act → World → Prop}
    (hd : ndOp o.op = true) (hK : ∀ a' w', K' a' w' → K { a' with defers := a'.defers ++ ds } w') (hQ : ∀ x a w, x ≠ .normal → ¬ Q' x a w)
    (h : o.wp P a0 w K' Q') : o.wpIn (Rnd ro) 0 P { a0 with defers := a0.defers ++ ds } w K Q := by
  unfold Oper.wpIn
  refine ⟨fun f _ => Rnd.fn ro f, ?_⟩
  rw [Rnd.round_, semAt_nd hd]
  have e : Act.eval { a0 with defers := a0.defers ++ ds } = a0.eval := by funext x; cases x <;> rfl
  have pe : ∀ (a1 : Act) (d : Option Tmp) (v : Value), { a1.put d v with defers := (a1.put d v).defers ++ ds } = ({ a1 with defers := a1.defers ++ ds } : Act).put d v := by
    intro a1 d v; cases d <;> rfl
  rw [e]
  unfold Oper.wp at h
  generalize (execOp a0.eval o).run P w = r at h ⊢
  cases r with
  | ok x w' =>
    cases x with
    | value v => have := hK _ _ h; rw [pe] at this; exact this
    | skip => have := hK _ _ h; rw [pe] at this; exact this
    | «defer» d =>
      have := hK _ _ h; rw [pe] at this; exact this
    | enter f args =>
      refine ⟨fun h => (by rw [Rnd.depth_] at h; cases h), (calls_rnd ro _ h).mono ?_⟩
      intro e w'' he
      cases e with
      | returned v => have := hK _ _ he; rw [pe] at this; exact this
      | panicked chain => exact (hQ _ _ _ (by simp) he).elim
      | outgrown => obtain ⟨a1, w1, h1⟩ := he; exact (hQ _ _ _ (by simp) h1).elim
    | row row args =>
      refine ⟨fun h => (by rw [Rnd.depth_] at h; cases h), (rows_rnd ro _ h).mono ?_⟩
      intro v w'' he
      have := hK _ _ he; rw [pe] at this; exact this
    | _ => exact h.elim
  | halt x w' =>
    cases x with
    | panic v => exact (hQ _ _ _ (by simp) h).elim
    | _ => exact h.elim

theorem lift_list {P : Program} {ro : Option Nat} {ops : Array Oper} {ds : List Deferred} {Q Q' : Exit → Act → World → Prop}
    (hQ : ∀ x a w, x ≠ .normal → ¬ Q' x a w) (hN : ∀ a' w', Q' .normal a' w' → Q .normal { a' with defers := a'.defers ++ ds } w') : ∀ (l : List Oper), ndB l = true → ∀ (a0 : Act) (w : World), wpList P ops Q' l a0 w →
    wpListIn (Rnd ro) 0 P ops Q l { a0 with defers := a0.defers ++ ds } w
  | [], _, a0, w, h => hN _ _ h
  | o :: rest, hd, a0, w, h => by
    simp only [ndB, List.all_cons, Bool.and_eq_true] at hd
    unfold wpList at h
    unfold wpListIn
    split at h
    · rename_i hw
      rw [if_pos hw]
      rcases h with h | ⟨_, a1, w1, h⟩
      · exact lift_op hd.1 (fun a' w' h' => lift_list hQ hN rest hd.2 a' w' h') hQ h
      · exact (hQ _ _ _ (by simp) h).elim
    · rename_i hw
      rw [if_neg hw]
      refine ⟨fun f _ => Rnd.fn ro f, ?_⟩
      have := lift_list (ro := ro) hQ hN rest hd.2 _ w h
      have pe : ∀ (a1 : Act) (d : Option Tmp) (v : Value), { a1.put d v with defers := (a1.put d v).defers ++ ds } = ({ a1 with defers := a1.defers ++ ds } : Act).put d v := by
        intro a1 d v; cases d <;> rfl
      rw [pe] at this
      exact this

structure RepD (ds : List Deferred) (n : Nat) (a : Act) (e : Env) : Prop where
  rep : Rep n { a with defers := [] } e
  nd : a.defers = ds
theorem RepD.of {ds : List Deferred} {n : Nat} {a : Act} {e : Env} (h : Rep n a e) : RepD ds n { a with defers := a.defers ++ ds } e :=
  ⟨⟨rfl, h.sz, h.at_⟩, by show a.defers ++ ds = ds; rw [h.nd]; rfl⟩
theorem RepD.act {ds : List Deferred} {n : Nat} {a : Act} {e : Env} (h : RepD ds n a e) : ({ ({ a with defers := [] } : Act) with defers := ([] : List Deferred) ++ ds } : Act) = a := by
  cases a; have := h.nd; simp at this; simp [this]
theorem RepD.eval {ds : List Deferred} {n : Nat} {a : Act} {e : Env} (h : RepD ds n a e) {x : Operand} {v : Value} (hx : ev e x = some v) : a.eval x = v := by
  have := h.rep.eval hx
  rw [← this]; cases x <;> rfl
theorem RepD.sub {ds : List Deferred} {n : Nat} {a : Act} {e e' : Env} (h : RepD ds n a e) (k : Sub e' e) : RepD ds n a e' := ⟨h.rep.sub k, h.nd⟩
theorem RepD.put {ds : List Deferred} {n : Nat} {a : Act} {e : Env} (h : RepD ds n a e) {d : Nat} (hd : d < n) (v : Value) : RepD ds n (a.put (some d) v) ((d, v) :: e) :=
  ⟨h.rep.put hd v, h.nd⟩

abbrev PostD := Exit → List Deferred → Env → Hp → Prop
def liftD (n : Nat) (w0 : World) (own : List Nat) (Q : PostD) : Exit → Act → World → Prop := fun x a w => ∃ ds e hs, RepD ds n a e ∧ Sat w0 own hs w ∧ Q x ds e hs
/-- the code, in a round or outside, with the marks 'ds' among the deferred calls -/
def JF (ro : Option Nat) (P : Program) (n : Nat) (w0 : World) (own : List Nat) (c : Code) (ds : List Deferred) (e : Env) (hs : Hp) (Q : PostD) : Prop :=
  ∀ a w, RepD ds n a e → Sat w0 own hs w → c.wpIn (Rnd ro) 0 P (liftD n w0 own Q) a w
def thenD (K : List Deferred → Env → Hp → Prop) (Q : PostD) : PostD
  | .normal, ds, e, hs => K ds e hs
  | x, ds, e, hs => Q x ds e hs
def blockD (id : Nat) (Q : PostD) : PostD
  | .exit id', ds, e, hs => bif Nat.beq id' id then Q .normal ds e hs else Q (.exit id') ds e hs
  | x, ds, e, hs => Q x ds e hs

section
variable {ro : Option Nat} {P : Program} {n : Nat} {w0 : World} {own : List Nat} {ds : List Deferred} {e : Env} {hs : Hp} {Q : PostD}

theorem JF.mono {c : Code} {Q' : PostD} (h : JF ro P n w0 own c ds e hs Q) (k : ∀ x ds e hs, Q x ds e hs → Q' x ds e hs) : JF ro P n w0 own c ds e hs Q' :=
  fun a w hr hs => wpIn_mono (h a w hr hs) fun x a' w' ⟨ds', e', hs', h1, h2, h3⟩ => ⟨ds', e', hs', h1, h2, k _ _ _ _ h3⟩
theorem JF.sub {c : Code} {e' : Env} (k : Sub e' e) (h : JF ro P n w0 own c ds e' hs Q) : JF ro P n w0 own c ds e hs Q :=
  fun a w hr hs => h a w (hr.sub k) hs
theorem JF.heap {c : Code} {hs' : Hp} (k : ∀ w, Sat w0 own hs w → Sat w0 own hs' w) (h : JF ro P n w0 own c ds e hs' Q) : JF ro P n w0 own c ds e hs Q :=
  fun a w hr hs => h a w hr (k w hs)
theorem JF.keep {c : Code} (pre : Hp) {fr : Hp} [h : TakeI pre hs fr] (k : JF ro P n w0 own c ds e pre Q) : JF ro P n w0 own c ds e hs Q := JF.heap (fun _ s => s.take) k
theorem JF.nd {c : Code} (h : (bl hs).Nodup → JF ro P n w0 own c ds e hs Q) : JF ro P n w0 own c ds e hs Q := fun a w r s => h s.nd a w r s
theorem JF.skip (h : Q .normal ds e hs) : JF ro P n w0 own .skip ds e hs Q := fun a w hr hs => wpIn_skip ⟨ds, e, _, hr, hs, h⟩
theorem JF.exit {id : Nat} (h : Q (.exit id) ds e hs) : JF ro P n w0 own (.exit id) ds e hs Q := fun a w hr hs => wpIn_exit ⟨ds, e, _, hr, hs, h⟩
theorem JF.ret (h : Q .ret ds e hs) : JF ro P n w0 own .ret ds e hs Q := fun a w hr hs => wpIn_ret ⟨ds, e, _, hr, hs, h⟩
theorem JF.seq {x y : Code} (h : JF ro P n w0 own x ds e hs (thenD (fun ds e hs => JF ro P n w0 own y ds e hs Q) Q)) : JF ro P n w0 own (.seq x y) ds e hs Q := by
  intro a w hr hs
  refine wpIn_seq (wpIn_mono (h a w hr hs) ?_)
  rintro x a' w' ⟨ds', e', hs', h1, h2, h3⟩
  cases x with
  | normal => exact h3 a' w' h1 h2
  | _ => exact ⟨ds', e', hs', h1, h2, h3⟩
theorem JF.cond {c : Operand} {x y : Code} {b : Bool} (hc : ev e c = some (.bool b)) (ht : b = true → JF ro P n w0 own x ds e hs Q) (hf : b = false → JF ro P n w0 own y ds e hs Q) :
    JF ro P n w0 own (.cond c x y) ds e hs Q := fun a w hr hs => wpIn_cond_split (hr.eval hc) (fun h => ht h a w hr hs) (fun h => hf h a w hr hs)
theorem JF.cond_dec {c : Operand} {x y : Code} {p : Prop} [Decidable p] (hc : ev e c = some (.bool (decide p))) (ht : p → JF ro P n w0 own x ds e hs Q) (hf : ¬ p → JF ro P n w0 own y ds e hs Q) :
    JF ro P n w0 own (.cond c x y) ds e hs Q := JF.cond hc (fun h => ht (of_decide_eq_true h)) (fun h => hf (of_decide_eq_false h))
theorem JF.block {id : Nat} {c : Code} (h : JF ro P n w0 own c ds e hs (blockD id Q)) : JF ro P n w0 own (.block id c) ds e hs Q := by
  intro a w hr hs
  refine wpIn_block (wpIn_mono (h a w hr hs) ?_)
  rintro x a' w' ⟨ds', e', hs', h1, h2, h3⟩
  cases x with
  | exit id' =>
    simp only [blockD] at h3
    simp only [Exit.inBlock]
    cases hb : Nat.beq id' id with
    | true => rw [hb] at h3; rw [if_pos (Nat.eq_of_beq_eq_true hb)]; exact ⟨ds', e', hs', h1, h2, h3⟩
    | false => rw [hb] at h3; rw [if_neg (Nat.ne_of_beq_eq_false hb)]; exact ⟨ds', e', hs', h1, h2, h3⟩
  | _ => exact ⟨ds', e', hs', h1, h2, h3⟩
theorem JF.loop {X : Type} {c : Code} (I : X → Env) (H : X → Hp) (inv : X → Prop) (μ : X → Nat) (x0 : X) (h0 : inv x0) (hE : Sub (I x0) e) (hH : ∀ w, Sat w0 own hs w → Sat w0 own (H x0) w)
    (round : ∀ x, inv x → JF ro P n w0 own c ds (I x) (H x) (thenD (fun ds' e' hs' => ds' = ds ∧ ∃ x', inv x' ∧ μ x' < μ x ∧ Sub (I x') e' ∧ ∀ w, Sat w0 own hs' w → Sat w0 own (H x') w) Q)) :
    JF ro P n w0 own (.loop c) ds e hs Q := by
  intro a w hr hs
  refine wpIn_loop (fun a w => ∃ m y, inv y ∧ μ y = m ∧ RepD ds n a (I y) ∧ Sat w0 own (H y) w) (fun a w => leastOf (fun m => ∃ y, inv y ∧ μ y = m ∧ RepD ds n a (I y) ∧ Sat w0 own (H y) w)) ⟨_, x0, h0, rfl, hr.sub hE, hH w hs⟩ ?_
  intro a w hI
  obtain ⟨y, hy, hm, hr, hs⟩ := (leastOf_spec hI).1
  rw [← hm]
  refine wpIn_mono (round y hy a w hr hs) ?_
  rintro x a' w' ⟨ds', e', hs', h1, h2, h3⟩
  cases x with
  | normal =>
    obtain ⟨rfl, y', i1, i2, i3, i4⟩ := h3
    have hI' : ∃ m y, inv y ∧ μ y = m ∧ RepD ds' n a' (I y) ∧ Sat w0 own (H y) w' := ⟨_, y', i1, rfl, h1.sub i3, i4 w' h2⟩
    exact ⟨hI', Nat.lt_of_le_of_lt ((leastOf_spec hI').2 _ ⟨y', i1, rfl, h1.sub i3, i4 w' h2⟩) i2⟩
  | _ => exact ⟨ds', e', hs', h1, h2, h3⟩
theorem JF.mid {x y : Code} {X : Type} (env : X → Env) (heap : X → Hp) (I : X → Prop)
    (hx : JF ro P n w0 own x ds e hs (thenD (fun ds' e' hs' => ds' = ds ∧ ∃ z, I z ∧ Sub (env z) e' ∧ ∀ w, Sat w0 own hs' w → Sat w0 own (heap z) w) Q)) (hy : ∀ z, I z → JF ro P n w0 own y ds (env z) (heap z) Q) : JF ro P n w0 own (.seq x y) ds e hs Q := by
  refine .seq (hx.mono ?_)
  intro x ds' e' hs' h
  cases x with
  | normal =>
    obtain ⟨rfl, z, h1, h2, h3⟩ := h
    exact .sub h2 (.heap h3 (hy z h1))
  | _ => exact h

theorem JF.region {id : Nat} {l : List Oper} (h : JL P n w0 own l.toArray l e hs (fun e hs => Q .normal ds e hs)) (hn : ndB l = true := by rfl) : JF ro P n w0 own (.region id l.toArray false) ds e hs Q := by
  intro a w hr s
  refine wpIn_region_lit ?_
  rw [← hr.act]
  refine lift_list (Q' := fun x a' w' => x = .normal ∧ ∃ e' hs', Rep n a' e' ∧ Sat w0 own hs' w' ∧ Q .normal ds e' hs') (fun x a w hx h => hx h.1) ?_ l hn _ w ?_
  · rintro a' w' ⟨_, e', hs', h1, h2, h3⟩
    exact ⟨ds, e', hs', .of h1, h2, h3⟩
  · exact h _ w hr.rep s _ fun e' hs' a' w' h1 h2 h3 => ⟨rfl, e', hs', h1, h2, h3⟩

/-- operations, one of which may be a call of 'yield' -/
def JFL (ro : Option Nat) (P : Program) (n : Nat) (w0 : World) (own : List Nat) (ops : Array Oper) (l : List Oper) (ds : List Deferred) (e : Env) (hs : Hp) (K : Env → Hp → Prop) : Prop :=
  ∀ a w, RepD ds n a e → Sat w0 own hs w → ∀ Qx : Exit → Act → World → Prop, (∀ e' hs' a' w', RepD ds n a' e' → Sat w0 own hs' w' → K e' hs' → Qx .normal a' w') → wpListIn (Rnd ro) 0 P ops Qx l a w
variable {ops : Array Oper} {rest : List Oper} {K : Env → Hp → Prop} {d : Nat} {ty : TypeId} {pos : String} {aft : Array Edge}
theorem JFL.nil (h : K e hs) : JFL ro P n w0 own ops [] ds e hs K := fun a w hr hs Q hq => hq _ _ _ _ hr hs h
theorem JF.regionY {id : Nat} {l : List Oper} (h : JFL ro P n w0 own l.toArray l ds e hs (fun e hs => Q .normal ds e hs)) : JF ro P n w0 own (.region id l.toArray false) ds e hs Q :=
  fun a w hr s => wpIn_region_lit (h a w hr s _ fun e' hs' a' w' r s k => ⟨ds, e', hs', r, s, k⟩)
theorem JFL.v {op : Op} {v : Value} (h : Val P n w0 own e hs op v) (k : JFL ro P n w0 own ops rest ds ((d, v) :: e) hs K) (hdn : Nat.blt d n = true := by rfl) (hnd : ndOp op = true := by rfl) :
    JFL ro P n w0 own ops (⟨some d, op, ty, pos, aft, none⟩ :: rest) ds e hs K := by
  intro a w hr s Q hq
  unfold wpListIn
  rw [if_pos (by rfl)]
  refine ⟨fun f _ => Rnd.fn ro f, ?_⟩
  rw [Rnd.round_, semAt_nd hnd]
  have e1 : a.eval = Act.eval { a with defers := [] } := by funext x; cases x <;> rfl
  rw [e1, h _ w ty pos aft none (some d) hr.rep s, Oper.uponIn_value]
  exact k _ _ (hr.put (Nat.le_of_ble_eq_true hdn) v) s Q hq
/-- WHAT A CALL OF 'yield' DOES. -/
def DoesY (P : Program) (l : Nat) (vals : List Value) (pre : Hp) (w : World) (R : Value → Hp → Prop) : Prop :=
  Holds pre w → (bl pre).Nodup → ∃ fn tmps assign body, (Instr.yield l ⟨vals⟩).run P w = .ok (.round l fn tmps assign body) w ∧
    RoundIn Fence.wide 0 P l fn tmps assign body w (fun x w' => ∃ v hs', x = .returned v ∧ R v hs' ∧ Sat w (bl pre) hs' w')
theorem JFL.yield {l : Nat} {f : Operand} {args : List Operand} {at_ : Array TypeId} {vals : List Value} {pre fr : Hp} {R : Value → Hp → Prop} (hf : ev e f = some (.func (.yield l) #[] #[])) (ha : evs e args = some vals)
    (tk : hs.Perm (pre ++ fr)) (hy : ∀ w, Sat w0 own hs w → DoesY P l vals pre w R) (k : ∀ v hs', R v hs' → JFL ro P n w0 own ops rest ds ((d, v) :: e) (hs' ++ fr) K) (hdn : Nat.blt d n = true := by rfl) :
    JFL ro P n w0 own ops (⟨some d, .call { callee := .value f, args := ⟨args⟩, argTypes := at_ }, ty, pos, aft, none⟩ :: rest) ds e hs K := by
  intro a w hr s Q hq
  unfold wpListIn
  rw [if_pos (by rfl)]
  refine ⟨fun f _ => Rnd.fn ro f, ?_⟩
  rw [Rnd.round_, semAt_nd (by rfl)]
  have e1 : a.eval = Act.eval { a with defers := [] } := by funext x; cases x <;> rfl
  have s' := s.perm tk
  obtain ⟨fn, tmps, assign, body, h1, h2⟩ := hy w s (fun b c hb => s'.has b c (List.mem_append.2 (.inl hb))) (by have := s'.nd; simp only [bl, List.map_append, List.nodup_append] at this; exact this.1)
  have hrun : (execOp a.eval ⟨some d, .call { callee := .value f, args := ⟨args⟩, argTypes := at_ }, ty, pos, aft, none⟩).run P w = .ok (.round l fn tmps assign body) w := by
    have hargs : (⟨args⟩ : Array Operand).map a.eval = ⟨vals⟩ := by
      have := hr.rep.evals ha
      rw [e1]
      simp [this]
    have hfv : a.eval f = .func (.yield l) #[] #[] := hr.eval hf
    simp [execOp, resolve, hfv, Deferred.ofValue, hargs, invoke, h1]
  rw [hrun, Oper.uponIn_round]
  refine ⟨fun h => (by rw [Rnd.depth_] at h; cases h), ?_⟩
  have h2' : RoundIn (Rnd ro) (0 - 1) P l fn tmps assign body w (fun x w' => ∃ v hs', x = .returned v ∧ R v hs' ∧ Sat w (bl pre) hs' w') := by
    cases ro with
    | none => exact h2
    | some l' => exact h2
  refine h2'.mono ?_
  rintro x w' ⟨v, hs', rfl, h3, h4⟩
  exact k v hs' h3 _ _ (hr.put (Nat.le_of_ble_eq_true hdn) v) (s'.call h4) Q hq
end

/-! ### the loop -/
abbrev dfr : Ch := .obj (.deferred (some []))
abbrev mark (D : Nat) : Deferred := { target := .collected D, args := #[] }
def bindE (ps : List Nat) (vs : List Value) (e : Env) : Env := (ps.zip vs).foldl (fun e (p, v) => (p, v) :: e) e
theorem rep_bind {n : Nat} : ∀ (pv : List (Nat × Value)) (t : Array Value) (e : Env), (∀ p ∈ pv, p.1 < n) → Rep n ⟨t, []⟩ e → Rep n ⟨pv.foldl (fun t (p, v) => t.setIfInBounds p v) t, []⟩ (pv.foldl (fun e (p, v) => (p, v) :: e) e)
  | [], t, e, _, h => h
  | (p, v) :: pv, t, e, hp, h => rep_bind pv _ _ (fun q hq => hp q (List.mem_cons_of_mem _ hq)) (h.put (hp (p, v) List.mem_cons_self) v)

/-- AN ITERATOR: a call with 'yield' hands over 'xs' one by one: 'J i' when i have been taken; 'Jx' when a round has said 'no more'. -/
def Its (P : Program) (g : Nat) (cap : List Value) (xs : List (List Value)) (w : World) (pre : Hp) : Prop :=
  ∀ (l : Nat) (J : Nat → Hp → Prop) (Jx : Hp → Prop), J 0 pre →
    (∀ i, (hi : i < xs.length) → ∀ W p, J i p → Sat w (bl pre) p W → DoesY P l xs[i] p W (fun v h => (v = .bool true ∧ J (i + 1) h) ∨ (v = .bool false ∧ Jx h))) →
    Does P g (.func (.yield l) #[] #[] :: cap) pre w (fun _ h => J xs.length h ∨ Jx h)

def bodyD (P : Program) (n : Nat) (W : World) (own : List Nat) (l D : Nat) (rc : Ch) (I : Hp → Prop) (Ix : Code → Hp → Prop) : PostD
  | .normal, _, _, h => ∃ h', (∀ w, Sat W own h w → Sat W own ((l, rc) :: (D, dfr) :: h') w) ∧ I h'
  | .ret, _, _, h => ∃ h', (∀ w, Sat W own h w → Sat W own ((l, rc) :: (D, dfr) :: h') w) ∧ Ix .ret h'
  | .exit id, _, _, h => ∃ h', (∀ w, Sat W own h w → Sat W own ((l, rc) :: (D, dfr) :: h') w) ∧ Ix (.exit id) h'
  | _, _, _, _ => False
def asgD (P : Program) (n : Nat) (W : World) (own : List Nat) (l D : Nat) (rc rc' : Ch) (body : Code) (I : Hp → Prop) (Ix : Code → Hp → Prop) : PostD := fun x ds e h =>
  x = .normal ∧ ds = [] ∧ ∃ h', (∀ w, Sat W own h w → Sat W own ((l, rc) :: (D, dfr) :: h') w) ∧ JF (some l) P n W own body [] e ((l, rc') :: (D, dfr) :: h') (bodyD P n W own l D rc' I Ix)

theorem Sat.putObj {w0 w : World} {own : List Nat} {hs hs' : Hp} {b : Nat} {o : Obj} (s : Sat w0 own hs w) (u : Upd b (.obj o) hs hs') : Sat w0 own hs' (w.putObj b o) := by
  have hlt : b < w.heap.size := s.has.lt u.mem
  exact s.upd u (by simp) (fun i hi => World.putObj_heap_other hi) (World.putObj_heap_same hlt) rfl rfl rfl

theorem JF.rangeFunc {P : Program} {n : Nat} {w0 : World} {own : List Nat} {ds : List Deferred} {e : Env} {hs : Hp} {Q : PostD} {g : Nat} {f : Operand} {cap : List Value} {ps : List Nat} {assign body : Code}
    (xs : List (List Value)) (I : Nat → Hp → Prop) (Ix : Code → Hp → Prop) (hf : ev e f = some (.func (.func g) #[] ⟨cap⟩)) [hg : FnT P g] (h0 : I 0 hs) (hps : (ps.all fun p => Nat.blt p n) = true) (hxl : ∀ x ∈ xs, x.length = ps.length)
    (it : ∀ p q w, Sat w0 own (p :: q :: hs) w → Its P g cap xs w (p :: q :: hs))
    (round : ∀ l D i, (hi : i < xs.length) → ∀ h W rc rc', I i h → Sat w0 own ((l, rc) :: (D, dfr) :: h) W →
      JF (some l) P n W (bl ((l, rc) :: (D, dfr) :: h)) assign [] (bindE ps xs[i] e) ((l, rc) :: (D, dfr) :: h) (asgD P n W (bl ((l, rc) :: (D, dfr) :: h)) l D rc rc' body (I (i + 1)) Ix))
    (done : ∀ D h, I xs.length h → Q .normal (mark D :: ds) e ((D, dfr) :: h))
    (stop : ∀ D c h, Ix c h → JF none P n w0 own c (mark D :: ds) e ((D, dfr) :: h) Q) :
    JF none P n w0 own (.rangeFunc f ⟨ps⟩ assign body) ds e hs Q := by
  intro a w hr s
  refine wpIn_rangeFunc ?_
  intro fn hfn
  obtain ⟨gf, hg1, hg2, hg3⟩ := hg.out
  obtain ⟨rec, hrec⟩ : ∃ rec : LoopState → Option Code → Loop, rec = fun st pe => { state := st, pending := pe, fn, tmps := a.tmps, params := ⟨ps⟩, assign, body, defers := w.heap.size } := ⟨_, rfl⟩
  have s1 : Sat w0 own ((w.heap.size + 1, .obj (.loop (rec .ready none))) :: (w.heap.size, dfr) :: hs) ((w.alloc (.deferred (some []))).alloc (.loop (rec .ready none))) := by
    have h1 := s.new dfr
    have h2 := h1.new (.obj (.loop (rec .ready none)))
    have e1 : (w.alloc dfr.toObj).heap.size = w.heap.size + 1 := World.size_alloc w _
    rw [e1] at h2
    exact h2
  refine ⟨w.heap.size + 1, [mark w.heap.size], (w.alloc (.deferred (some []))).alloc (.loop (rec .ready none)), { target := .fn (.func g) ⟨cap⟩, args := #[.func (.yield (w.heap.size + 1)) #[] #[]] }, (w.alloc (.deferred (some []))).alloc (.loop (rec .ready none)), g, #[.func (.yield (w.heap.size + 1)) #[] #[]] ++ ⟨cap⟩, (w.alloc (.deferred (some []))).alloc (.loop (rec .ready none)), ?_, ?_, fun _ _ => trivial, ?_, (fun h => by cases h), ?_⟩
  · rw [show (Rnd none).round = none from rfl, run_enterLoop_outer]
    rw [hrec]
  · simp only [resolve, hr.eval hf]
    simp [Deferred.ofValue, Act.eval]
  · have h2' : ¬ gf.name = "runtime.NumGoroutine" := by simpa using hg2
    have h3' : ¬ gf.body = none := by intro hh; rw [hh] at hg3; cases hg3
    simp [invoke, callFunc, hg1, h2', h3']
  · refine (calls_rnd none _ ?_)
    have hits := it _ _ _ s1 (w.heap.size + 1)
      (fun i p => ∃ h, p = (w.heap.size + 1, Ch.obj (.loop (rec .ready none))) :: (w.heap.size, dfr) :: h ∧ I i h)
      (fun p => ∃ c h, p = (w.heap.size + 1, Ch.obj (.loop (rec .done (some c)))) :: (w.heap.size, dfr) :: h ∧ Ix c h)
      ⟨hs, rfl, h0⟩ ?_
    · have hc := hits s1.has s1.nd
      have ea : (#[Value.func (.yield (w.heap.size + 1)) #[] #[]] ++ ⟨cap⟩ : Array Value) = ⟨.func (.yield (w.heap.size + 1)) #[] #[] :: cap⟩ := by apply Array.ext'; simp
      rw [ea]
      refine Calls.mono hc ?_
      rintro x w' ⟨v, hs', rfl, h1, h2⟩
      have s2 : Sat w0 own hs' w' := by
        have := Sat.call (pre := _) (fr := []) (by simpa using s1) h2
        simpa using this
      rcases h1 with ⟨h, rfl, hI⟩ | ⟨c, h, rfl, hI⟩
      · have hl := s2.has _ _ (List.mem_cons_self)
        have h9 := run_endLoop (P := P) hl (by rw [hrec]; simp)
        have e9 : (rec .ready none).pending = none := by rw [hrec]
        rw [e9] at h9
        refine ⟨none, _, h9, mark w.heap.size :: ds, e, (w.heap.size, dfr) :: h, ⟨⟨rfl, hr.rep.sz, hr.rep.at_⟩, ?_⟩, ?_, done _ _ hI⟩
        · show [mark w.heap.size] ++ a.defers = _
          rw [hr.nd]; rfl
        · exact (s2.putObj (.head)).sub (List.sublist_cons_self _ _)
      · have hl := s2.has _ _ (List.mem_cons_self)
        have h9 := run_endLoop (P := P) hl (by rw [hrec]; simp)
        have e9 : (rec .done (some c)).pending = some c := by rw [hrec]
        rw [e9] at h9
        refine ⟨some c, _, h9, ?_⟩
        refine stop w.heap.size c h hI _ _ ⟨⟨rfl, hr.rep.sz, hr.rep.at_⟩, ?_⟩ ((s2.putObj (.head)).sub (List.sublist_cons_self _ _))
        show [mark w.heap.size] ++ a.defers = _
        rw [hr.nd]; rfl
    · rintro i hi W p ⟨h, rfl, hI⟩ sW hp hnd
      have sW0 : Sat w0 own ((w.heap.size + 1, Ch.obj (.loop (rec .ready none))) :: (w.heap.size, dfr) :: h) W := by
        have := Sat.call (pre := _) (fr := []) (by simpa using s1) sW
        simpa using this
      have hl := hp _ _ (List.mem_cons_self)
      have hyl := run_yield (P := P) (args := ⟨xs[i]⟩) hl (by rw [hrec]; simpa using hxl _ (List.getElem_mem hi))
      rw [hrec] at hyl
      refine ⟨_, _, _, _, hyl, roundIn_of_wpIn trivial ?_⟩
      have sB : Sat W (bl ((w.heap.size + 1, Ch.obj (.loop (rec .ready none))) :: (w.heap.size, dfr) :: h)) _ W := Sat.begin hp hnd
      have hrnd := round (w.heap.size + 1) w.heap.size i hi h W _ (.obj (.loop (rec .busy none))) hI sW0 ⟨((ps.zip xs[i]).foldl (fun t (p, v) => t.setIfInBounds p v) a.tmps), []⟩ W
        ⟨rep_bind _ _ _ (fun q hq => by
          have := List.all_eq_true.1 hps q.1 (List.of_mem_zip hq).1
          exact Nat.le_of_ble_eq_true this) hr.rep, rfl⟩ sB
      have et : ((⟨ps⟩ : Array Nat).zip ⟨xs[i]⟩).foldl (fun tmps (x : Nat × Value) => tmps.setIfInBounds x.1 x.2) a.tmps = (ps.zip xs[i]).foldl (fun t (x : Nat × Value) => t.setIfInBounds x.1 x.2) a.tmps := by
        simp
      refine wpIn_mono (by simpa [et] using hrnd) ?_
      rintro x a1 w1 ⟨ds1, e1, h1, r1, q1, rfl, rfl, h2, k1, k2⟩
      have q2 := k1 w1 q1
      have hl2 := q2.has _ _ (List.mem_cons_self)
      refine ⟨_, run_beginRound hl2 (by rw [hrec]), ?_⟩
      have q3 := q2.putObj (o := .loop (rec .busy none)) (.head)
      refine wpIn_mono (k2 a1 _ r1 (by rw [hrec] at q3 ⊢; exact q3)) ?_
      have fin : ∀ (jump : Option Code) (W3 : World) (h' : Hp), Sat W (bl ((w.heap.size + 1, Ch.obj (.loop (rec .ready none))) :: (w.heap.size, dfr) :: h)) ((w.heap.size + 1, .obj (.loop (rec .busy none))) :: (w.heap.size, dfr) :: h') W3 →
          (Instr.endRound (w.heap.size + 1) jump).run P W3 = .ok (.bool jump.isNone) (W3.putObj (w.heap.size + 1) (.loop (rec (if jump.isNone then .ready else .done) jump))) ∧
          Sat W (bl ((w.heap.size + 1, Ch.obj (.loop (rec .ready none))) :: (w.heap.size, dfr) :: h)) ((w.heap.size + 1, .obj (.loop (rec (if jump.isNone then .ready else .done) jump))) :: (w.heap.size, dfr) :: h') (W3.putObj (w.heap.size + 1) (.loop (rec (if jump.isNone then .ready else .done) jump))) := by
        intro jump W3 h' q
        have hl3 := q.has _ _ (List.mem_cons_self)
        have := run_endRound (P := P) jump hl3
        refine ⟨by rw [hrec] at this ⊢; exact this, q.putObj (.head)⟩
      rintro x a3 w3 ⟨ds3, e3, h3, r3, q4, hb⟩
      cases x with
      | normal =>
        obtain ⟨h', t1, t2⟩ := hb
        obtain ⟨u1, u2⟩ := fin none w3 h' (t1 w3 q4)
        exact ⟨_, _, u1, _, _, rfl, .inl ⟨rfl, h', rfl, t2⟩, u2⟩
      | ret =>
        obtain ⟨h', t1, t2⟩ := hb
        obtain ⟨u1, u2⟩ := fin (some .ret) w3 h' (t1 w3 q4)
        exact ⟨_, _, u1, _, _, rfl, .inr ⟨rfl, .ret, h', rfl, t2⟩, u2⟩
      | exit id =>
        obtain ⟨h', t1, t2⟩ := hb
        obtain ⟨u1, u2⟩ := fin (some (.exit id)) w3 h' (t1 w3 q4)
        exact ⟨_, _, u1, _, _, rfl, .inr ⟨rfl, .exit id, h', rfl, t2⟩, u2⟩
      | _ => exact hb.elim

/-! ### the function -/
def retD (P : Program) (w0 : World) (own : List Nat) (rs : List ResultVar) (R : Value → Hp → Prop) : PostD := fun x ds e hs =>
  (x = .normal ∨ x = .ret) ∧ ∃ (Ds : List Nat) (hs' : Hp) (vs : List Value), ds = Ds.map mark ∧ (∀ w, Sat w0 own hs w → Sat w0 own ((Ds.map fun D => (D, dfr)) ++ hs') w) ∧ ResV P w0 own e hs' rs vs ∧ R (tup vs) hs'
theorem leaves_marks {P : Program} {w0 : World} {own : List Nat} {fn : Func} {tmps : Array Value} {R : Ending → World → Prop} {hs' : Hp} (h : ∀ w, Sat w0 own hs' w → ∃ v, (results fn tmps).run P w = .ok v w ∧ R (.returned v) w) :
    ∀ (Ds : List Nat) (w : World), Sat w0 own ((Ds.map fun D => (D, dfr)) ++ hs') w → LeavesInM Fence.wide 0 P fn tmps R (Ds.map mark) .returning w
  | [], w, s => by simpa [LeavesInM, LeavesIn] using h w s
  | D :: Ds, w, s => by
    refine ⟨by simp, .inl ⟨D, _, rfl, run_takeDeferred (s.has D dfr (by simp)), ?_⟩⟩
    exact leaves_marks h Ds _ ((s.putObj (b := D) (o := .deferred none) (.head)).sub (List.sublist_cons_self _ _))
theorem Does.ofF {P : Program} {n : Nat} {g : Nat} {fn : Func} {c : Code} {rs : List ResultVar} {vals : List Value} {pre : Hp} {w : World} {R : Value → Hp → Prop} (hf : P.funcs[g]? = some fn) (hb : fn.body = some c) (hrs : fn.results = ⟨rs⟩)
    (hn : fn.ntmps = n) (hv : Nat.ble vals.length n = true) (h : JF none P n w (bl pre) c [] (envFrom 0 vals) pre (retD P w (bl pre) rs R)) : Does P g vals pre w R := by
  intro hp hd
  have hv := Nat.le_of_ble_eq_true hv
  refine callsIn_wide.1 (callsIn_of_wp_marks (F := Fence.wide) (n := 0) hf hb trivial (wpIn_mono (h _ w ?_ (Sat.begin hp hd)) ?_))
  · refine ⟨⟨rfl, by simp [hn]; omega, fun t v ht => ?_⟩, rfl⟩
    obtain ⟨j, h1, h2⟩ := get_envFrom vals 0 t v ht
    have hj := (List.getElem?_eq_some_iff.1 h2).1
    have : t = j := by omega
    subst this
    show (_ ++ _ : Array Value)[t]? = _
    rw [Array.getElem?_append_left (by simpa using hj)]
    simpa using h2
  · rintro x a w' ⟨ds, e', hs', h1, h2, h3, Ds, hs2, vs, rfl, h4, h5, h6⟩
    have hx : LeavesInM Fence.wide 0 P fn a.tmps (fun x w' => ∃ v hs', x = .returned v ∧ R v hs' ∧ Sat w (bl pre) hs' w') a.defers .returning w' := by
      rw [h1.nd]
      refine leaves_marks (hs' := hs2) (fun w2 s2 => ?_) Ds w' (h4 w' h2)
      have := retQ.results (fn := fn) hrs h1.rep s2 h5
      exact ⟨_, this, _, hs2, rfl, h6, s2⟩
    rcases h3 with rfl | rfl <;> exact hx
end V
end Go

/- VZD: regions that draw their order, in functions that range over a function. -/
namespace Go
namespace V
open Go.RowKit
set_option linter.unusedVariables false
set_option linter.unusedSimpArgs false

theorem lift_ops {P : Program} {ro : Option Nat} {ops : Array Oper} {ds : List Deferred} {Q Q' : Exit → Act → World → Prop}
    (hQ : ∀ x a w, x ≠ .normal → ¬ Q' x a w) (hN : ∀ a' w', Q' .normal a' w' → Q .normal { a' with defers := a'.defers ++ ds } w') (hnd : ∀ (i : Nat) (o : Oper), ops[i]? = some o → ndOp o.op = true) : ∀ (l : List Nat) (a0 : Act) (w : World), wpOps P ops Q' l a0 w →
    wpOpsIn (Rnd ro) 0 P ops Q l { a0 with defers := a0.defers ++ ds } w
  | [], a0, w, h => hN _ _ h
  | i :: rest, a0, w, h => by
    unfold wpOps at h
    unfold wpOpsIn
    cases ho : ops[i]? with
    | none => rw [ho] at h; exact lift_ops hQ hN hnd rest a0 w h
    | some o =>
      rw [ho] at h
      simp only at h ⊢
      split at h
      · rename_i hw
        rw [if_pos hw]
        rcases h with h | ⟨_, a1, w1, h⟩
        · exact lift_op (hnd i o ho) (fun a' w' h' => lift_ops hQ hN hnd rest a' w' h') hQ h
        · exact (hQ _ _ _ (by simp) h).elim
      · rename_i hw
        rw [if_neg hw]
        refine ⟨fun f _ => Rnd.fn ro f, ?_⟩
        have := lift_ops (ro := ro) hQ hN hnd rest _ w h
        have pe : ∀ (a1 : Act) (d : Option Tmp) (v : Value), { a1.put d v with defers := (a1.put d v).defers ++ ds } = ({ a1 with defers := a1.defers ++ ds } : Act).put d v := by
          intro a1 d v; cases d <;> rfl
        rw [pe] at this
        exact this
theorem ndB_spec {l : List Oper} (h : ndB l = true) : ∀ (i : Nat) (o : Oper), l.toArray[i]? = some o → ndOp o.op = true := by
  intro i o ho
  have ho : l[i]? = some o := by simpa using ho
  exact List.all_eq_true.1 h o (List.mem_of_getElem? ho)
section
variable {ro : Option Nat} {P : Program} {n : Nat} {w0 : World} {own : List Nat} {ds : List Deferred} {e : Env} {hs : Hp} {Q : PostD} {l : List Oper}
theorem JF.any {id : Nat} (hm : P.follows .mixedOrders = true) (hn : ndB l = true)
    (h : ∀ a w, Rep n a e → Sat w0 own hs w → wpAny P .any l.toArray (QN fun a' w' => ∃ e' hs', Rep n a' e' ∧ Sat w0 own hs' w' ∧ Q .normal ds e' hs') l.toArray.size (Array.replicate l.toArray.size false) a w) : JF ro P n w0 own (.region id l.toArray true) ds e hs Q := by
  intro a w hr s
  refine wpIn_region_draw fun t => ?_
  rw [← hr.act]
  refine lift_ops (Q' := QN fun a' w' => ∃ e' hs', Rep n a' e' ∧ Sat w0 own hs' w' ∧ Q .normal ds e' hs') (fun x a w hx h => ?_) ?_ (ndB_spec hn) _ _ _ ?_
  · cases x with
    | normal => exact hx rfl
    | _ => exact h
  · rintro a' w' ⟨e', hs', h1, h2, h3⟩
    exact ⟨ds, e', hs', .of h1, h2, h3⟩
  · simp only [Region.schedule, hm, Bool.true_or, if_true]
    exact wpAny_sound l.toArray.size t _ _ _ (h _ _ hr.rep s.drew)
theorem JF.draw {id : Nat} (F : Hp) (hF : F ⊆ hs) (hm : P.follows .mixedOrders = true) (h : JD P n w0 own l.toArray F l.toArray.size (Array.replicate l.toArray.size false) e hs (fun e hs => Q .normal ds e hs)) (hn : ndB l = true := by rfl) : JF ro P n w0 own (.region id l.toArray true) ds e hs Q :=
  JF.any hm hn fun a w hr s => wpAny_of_held _ _ _ _ (h a w hr s hF)
theorem JF.drawZ {id : Nat} (z : Nat) (F : Hp) (hF : F ⊆ hs) (hm : P.follows .mixedOrders = true) (h : JZ P n w0 own l.toArray F z l.toArray.size (Array.replicate l.toArray.size false) e hs (fun e hs => Q .normal ds e hs)) (hn : ndB l = true := by rfl) : JF ro P n w0 own (.region id l.toArray true) ds e hs Q :=
  JF.any hm hn fun a w hr s => Upto.any _ _ _ _ (h a w hr s fun _ => hF)
theorem JF.drawK {id : Nat} (F : Hp) (hF : F ⊆ hs) (hm : P.follows .mixedOrders = true) (hB : (ordB l.toArray l (List.range' 0 l.length) (Array.replicate l.length false) && doneB l.toArray (marks_ (List.range' 0 l.length) (Array.replicate l.length false))) = true)
    (h : JK P n w0 own l.toArray F l e hs (fun e' hs' => Q .normal ds e' hs')) (hn : ndB l = true := by rfl) : JF ro P n w0 own (.region id l.toArray true) ds e hs Q := by
  rw [Bool.and_eq_true] at hB
  refine JF.draw F hF hm ?_ hn
  have := h 0 (List.range' 0 l.length) (Array.replicate l.length false) (fun e hs => Q .normal ds e hs) (Nums.seq l 0 fun j hj => by simp) hB.1 hF (fun e' hs' _ ke => JD.done hB.2 ke)
  simpa using this
theorem JF.drawP {id : Nat} (is : List Nat) (F : Hp) (hF : F ⊆ hs) (hm : P.follows .mixedOrders = true) (hB : (ordB l.toArray (pickL l is) is (Array.replicate l.length false) && doneB l.toArray (marks_ is (Array.replicate l.length false)) && Nat.beq (pickL l is).length l.length && Nat.beq (pickL l is).length is.length) = true)
    (h : JK P n w0 own l.toArray F (pickL l is) e hs (fun e' hs' => Q .normal ds e' hs')) (hn : ndB l = true := by rfl) : JF ro P n w0 own (.region id l.toArray true) ds e hs Q := by
  rw [Bool.and_eq_true, Bool.and_eq_true, Bool.and_eq_true] at hB
  obtain ⟨⟨⟨h1, h2⟩, h3⟩, h4⟩ := hB
  have h3 := Nat.eq_of_beq_eq_true h3
  have h4 := Nat.eq_of_beq_eq_true h4
  refine JF.draw F hF hm ?_ hn
  have := h 0 is (Array.replicate l.length false) (fun e hs => Q .normal ds e hs) (pickL_nums is h1 (by omega)) h1 hF (fun e' hs' _ ke => JD.done h2 ke)
  rw [h3] at this
  simpa using this
theorem JF.drawQ {id : Nat} (z : Nat) (is : List Nat) (F : Hp) (hF : F ⊆ hs) (hm : P.follows .mixedOrders = true)
    (hB : (ordZ l.toArray z (pickL l is) is (Array.replicate l.length false) && doneB l.toArray (marks_ is (Array.replicate l.length false)) && Nat.beq (pickL l is).length l.length && Nat.beq is.length l.length && Nat.blt z l.length) = true)
    (h : JQ P n w0 own l.toArray F z false (pickL l is) e hs (fun _ e' hs' => Q .normal ds e' hs')) (hn : ndB l = true := by rfl) : JF ro P n w0 own (.region id l.toArray true) ds e hs Q := by
  rw [Bool.and_eq_true, Bool.and_eq_true, Bool.and_eq_true, Bool.and_eq_true] at hB
  obtain ⟨⟨⟨⟨h1, h2⟩, h3⟩, h4⟩, h5⟩ := hB
  have h3 := Nat.eq_of_beq_eq_true h3
  have h4 := Nat.eq_of_beq_eq_true h4
  have h5 : z < l.length := Nat.le_of_ble_eq_true h5
  have key : ∀ (is : List Nat), (pickL l is).length = is.length → Nums l.toArray (pickL l is) is := by
    intro is
    induction is with
    | nil => intro _; trivial
    | cons i is ih =>
      intro hl
      unfold pickL at hl ⊢
      cases ho : l[i]? with
      | none => rw [ho] at hl; simp at hl
      | some o =>
        rw [ho] at hl
        simp only at hl ⊢
        exact ⟨by simpa using ho, ih (by simpa using hl)⟩
  refine JF.drawZ z F hF hm ?_ hn
  have := h 0 is (Array.replicate l.length false) (fun e hs => Q .normal ds e hs) (key _ (by omega)) h1 (by simp) (by simp [h5]) (fun _ => hF) (fun _ e' hs' _ _ ke => JZ.done h2 ke)
  rw [h3] at this
  simpa using this
end
end V
end Go

/- VZE: operations of all kinds beside a call of 'yield'; functions held against nil. -/
namespace Go
namespace V
open Go.RowKit
set_option linter.unusedVariables false
set_option linter.unusedSimpArgs false

class FuncTy (P : Program) (T : Nat) : Prop where
  out : ∃ d, P.underlying T = some d ∧ (match d with | .func .. => True | _ => False)
def fnTyB (P : Program) (T : Nat) : Bool := match P.underlying T with
  | some (.func ..) => true
  | _ => false
theorem FuncTy.of {P : Program} {T : Nat} (h : fnTyB P T = true) : FuncTy P T := by
  unfold fnTyB at h
  cases hd : P.underlying T with
  | none => rw [hd] at h; cases h
  | some d =>
    rw [hd] at h
    refine ⟨d, hd, ?_⟩
    cases d <;> first | trivial | cases h
section
variable {ro : Option Nat} {P : Program} {n : Nat} {w0 : World} {own : List Nat} {ds : List Deferred} {e : Env} {hs : Hp} {Q : PostD}
variable {ops : Array Oper} {rest : List Oper} {K : Env → Hp → Prop} {d : Nat} {ty : TypeId} {pos : String} {aft : Array Edge}
theorem Val.eql_func_nil {T U : Nat} {x y : Operand} {f : FuncId} {us vs : Array Value} (hx : ev e x = some (.func (.func f) us vs)) (hy : ev e y = some .nilFunc) [hT : FuncTy P T] :
    Val P n w0 own e hs (.binOp .eql T x y U) (.bool false) := fun _ w ty pos aft g d hr s => by
  obtain ⟨dd, hd, hm⟩ := hT.out
  have h : (Op.equalIn (9999 + 1) T (.func (.func f) us vs) .nilFunc).run P w = .ok false w := by
    cases dd <;> first | exact hm.elim | (rw [Op.equalIn]; simp [run_underlying hd])
  simp only [execOp, hr.eval hx, hr.eval hy, eqGuard, binOp, Op.equal, Op.maxDepth]
  simp [h]
theorem JFL.ef {op : Op} {R : Value → Hp → Prop} (h : Eff P n w0 own e hs op R) (k : ∀ v hs', R v hs' → JFL ro P n w0 own ops rest ds ((d, v) :: e) hs' K) (hdn : Nat.blt d n = true := by rfl) (hnd : ndOp op = true := by rfl) :
    JFL ro P n w0 own ops (⟨some d, op, ty, pos, aft, none⟩ :: rest) ds e hs K := by
  intro a w hr s Q hq
  unfold wpListIn
  rw [if_pos (by rfl)]
  have h1 := h { a with defers := [] } w ty pos aft none (some d) (fun a' w' => ∃ v hs', a' = Act.put { a with defers := [] } (some d) v ∧ R v hs' ∧ Sat w0 own hs' w') (fun _ _ _ => False) hr.rep s (fun v hs' w' r s' => ⟨v, hs', rfl, r, s'⟩)
  have h2 := lift_op (ro := ro) (ds := ds) (K := wpListIn (Rnd ro) 0 P ops Q rest) (Q := Q) hnd ?_ (fun _ _ _ _ h => h) h1
  · rw [hr.act] at h2
    exact h2
  · rintro a' w' ⟨v, hs', rfl, r, s'⟩
    have e1 : ({ (Act.put { a with defers := [] } (some d) v) with defers := (Act.put { a with defers := [] } (some d) v).defers ++ ds } : Act) = a.put (some d) v := by
      have := hr.nd
      cases a
      simp [Act.put] at this ⊢
      exact this.symm
    rw [e1]
    exact k v hs' r _ _ (hr.put (Nat.le_of_ble_eq_true hdn) v) s' Q hq
theorem JFL.pc {g : Nat} {f : Operand} {args : List Operand} {at_ : Array TypeId} {cap vals : List Value} {v : Value}
    (hf : ev e f = some (.func (.func g) #[] ⟨cap⟩)) (ha : evs e args = some vals) (hc : ∀ w, Sat w0 own hs w → Is P g (vals ++ cap) w v) (k : JFL ro P n w0 own ops rest ds ((d, v) :: e) hs K) [hg : FnT P g] (hdn : Nat.blt d n = true := by rfl) :
    JFL ro P n w0 own ops (⟨some d, .call { callee := .value f, args := ⟨args⟩, argTypes := at_ }, ty, pos, aft, none⟩ :: rest) ds e hs K :=
  JFL.ef (.call0 hf ha hc) (fun _ _ ⟨_, ⟨h1, h2⟩, h3⟩ => by subst h1; subst h2; subst h3; exact k) hdn rfl
end
end V
end Go

/- VZS: iterators that may choose the order in which they hand over (ranges over maps): their calls and the loops over them. -/
namespace Go
namespace V
open Go.RowKit
set_option linter.unusedVariables false
set_option linter.unusedSimpArgs false

/-- AN ITERATOR THAT CHOOSES: 'ok' what may have been handed over, 'fin' what has been when it is done; kp: blocks that must stay. -/
def ItsS (P : Program) (g : Nat) (cap : List Value) (kp : Hp) (ok fin : List (List Value) → Prop) (w : World) (pre : Hp) : Prop :=
  ∀ (l : Nat) (J : List (List Value) → Hp → Prop) (Jx : Hp → Prop), J [] pre → (∀ ys p, J ys p → kp ⊆ p) →
    (∀ ys y, ok (ys ++ [y]) → ∀ W p, J ys p → Sat w (bl pre) p W → DoesY P l y p W (fun v h => (v = .bool true ∧ J (ys ++ [y]) h) ∨ (v = .bool false ∧ Jx h))) →
    Does P g (.func (.yield l) #[] #[] :: cap) pre w (fun _ h => (∃ ys, fin ys ∧ J ys h) ∨ Jx h)
theorem JF.rangeFuncS {P : Program} {n : Nat} {w0 : World} {own : List Nat} {ds : List Deferred} {e : Env} {hs : Hp} {Q : PostD} {g : Nat} {f : Operand} {cap : List Value} {ps : List Nat} {assign body : Code}
    (kp : Hp) (ok fin : List (List Value) → Prop) (I : List (List Value) → Hp → Prop) (Ix : Code → Hp → Prop) (hf : ev e f = some (.func (.func g) #[] ⟨cap⟩)) [hg : FnT P g] (h0 : I [] hs) (hkp : ∀ ys h, I ys h → kp ⊆ h) (hps : (ps.all fun p => Nat.blt p n) = true) (hxl : ∀ ys y, ok (ys ++ [y]) → y.length = ps.length)
    (it : ∀ p q w, Sat w0 own (p :: q :: hs) w → ItsS P g cap kp ok fin w (p :: q :: hs))
    (round : ∀ l D ys y, ok (ys ++ [y]) → ∀ h W rc rc', I ys h → Sat w0 own ((l, rc) :: (D, dfr) :: h) W →
      JF (some l) P n W (bl ((l, rc) :: (D, dfr) :: h)) assign [] (bindE ps y e) ((l, rc) :: (D, dfr) :: h) (asgD P n W (bl ((l, rc) :: (D, dfr) :: h)) l D rc rc' body (I (ys ++ [y])) Ix))
    (done : ∀ D ys h, fin ys → I ys h → Q .normal (mark D :: ds) e ((D, dfr) :: h))
    (stop : ∀ D c h, Ix c h → JF none P n w0 own c (mark D :: ds) e ((D, dfr) :: h) Q) :
    JF none P n w0 own (.rangeFunc f ⟨ps⟩ assign body) ds e hs Q := by
  intro a w hr s
  refine wpIn_rangeFunc ?_
  intro fn hfn
  obtain ⟨gf, hg1, hg2, hg3⟩ := hg.out
  obtain ⟨rec, hrec⟩ : ∃ rec : LoopState → Option Code → Loop, rec = fun st pe => { state := st, pending := pe, fn, tmps := a.tmps, params := ⟨ps⟩, assign, body, defers := w.heap.size } := ⟨_, rfl⟩
  have s1 : Sat w0 own ((w.heap.size + 1, .obj (.loop (rec .ready none))) :: (w.heap.size, dfr) :: hs) ((w.alloc (.deferred (some []))).alloc (.loop (rec .ready none))) := by
    have h1 := s.new dfr
    have h2 := h1.new (.obj (.loop (rec .ready none)))
    have e1 : (w.alloc dfr.toObj).heap.size = w.heap.size + 1 := World.size_alloc w _
    rw [e1] at h2
    exact h2
  refine ⟨w.heap.size + 1, [mark w.heap.size], (w.alloc (.deferred (some []))).alloc (.loop (rec .ready none)), { target := .fn (.func g) ⟨cap⟩, args := #[.func (.yield (w.heap.size + 1)) #[] #[]] }, (w.alloc (.deferred (some []))).alloc (.loop (rec .ready none)), g, #[.func (.yield (w.heap.size + 1)) #[] #[]] ++ ⟨cap⟩, (w.alloc (.deferred (some []))).alloc (.loop (rec .ready none)), ?_, ?_, fun _ _ => trivial, ?_, (fun h => by cases h), ?_⟩
  · rw [show (Rnd none).round = none from rfl, run_enterLoop_outer]
    rw [hrec]
  · simp only [resolve, hr.eval hf]
    simp [Deferred.ofValue, Act.eval]
  · have h2' : ¬ gf.name = "runtime.NumGoroutine" := by simpa using hg2
    have h3' : ¬ gf.body = none := by intro hh; rw [hh] at hg3; cases hg3
    simp [invoke, callFunc, hg1, h2', h3']
  · refine (calls_rnd none _ ?_)
    have hits := it _ _ _ s1 (w.heap.size + 1)
      (fun ys p => ∃ h, p = (w.heap.size + 1, Ch.obj (.loop (rec .ready none))) :: (w.heap.size, dfr) :: h ∧ I ys h)
      (fun p => ∃ c h, p = (w.heap.size + 1, Ch.obj (.loop (rec .done (some c)))) :: (w.heap.size, dfr) :: h ∧ Ix c h)
      ⟨hs, rfl, h0⟩ (fun ys p hp => by obtain ⟨h, rfl, hI⟩ := hp; exact fun x hx => List.mem_cons_of_mem _ (List.mem_cons_of_mem _ (hkp ys h hI hx))) ?_
    · have hc := hits s1.has s1.nd
      have ea : (#[Value.func (.yield (w.heap.size + 1)) #[] #[]] ++ ⟨cap⟩ : Array Value) = ⟨.func (.yield (w.heap.size + 1)) #[] #[] :: cap⟩ := by apply Array.ext'; simp
      rw [ea]
      refine Calls.mono hc ?_
      rintro x w' ⟨v, hs', rfl, h1, h2⟩
      have s2 : Sat w0 own hs' w' := by
        have := Sat.call (pre := _) (fr := []) (by simpa using s1) h2
        simpa using this
      rcases h1 with ⟨ys, hfin, h, rfl, hI⟩ | ⟨c, h, rfl, hI⟩
      · have hl := s2.has _ _ (List.mem_cons_self)
        have h9 := run_endLoop (P := P) hl (by rw [hrec]; simp)
        have e9 : (rec .ready none).pending = none := by rw [hrec]
        rw [e9] at h9
        refine ⟨none, _, h9, mark w.heap.size :: ds, e, (w.heap.size, dfr) :: h, ⟨⟨rfl, hr.rep.sz, hr.rep.at_⟩, ?_⟩, ?_, done _ _ _ hfin hI⟩
        · show [mark w.heap.size] ++ a.defers = _
          rw [hr.nd]; rfl
        · exact (s2.putObj (.head)).sub (List.sublist_cons_self _ _)
      · have hl := s2.has _ _ (List.mem_cons_self)
        have h9 := run_endLoop (P := P) hl (by rw [hrec]; simp)
        have e9 : (rec .done (some c)).pending = some c := by rw [hrec]
        rw [e9] at h9
        refine ⟨some c, _, h9, ?_⟩
        refine stop w.heap.size c h hI _ _ ⟨⟨rfl, hr.rep.sz, hr.rep.at_⟩, ?_⟩ ((s2.putObj (.head)).sub (List.sublist_cons_self _ _))
        show [mark w.heap.size] ++ a.defers = _
        rw [hr.nd]; rfl
    · rintro ys y hok W p ⟨h, rfl, hI⟩ sW hp hnd
      have sW0 : Sat w0 own ((w.heap.size + 1, Ch.obj (.loop (rec .ready none))) :: (w.heap.size, dfr) :: h) W := by
        have := Sat.call (pre := _) (fr := []) (by simpa using s1) sW
        simpa using this
      have hl := hp _ _ (List.mem_cons_self)
      have hyl := run_yield (P := P) (args := ⟨y⟩) hl (by rw [hrec]; simpa using hxl _ _ hok)
      rw [hrec] at hyl
      refine ⟨_, _, _, _, hyl, roundIn_of_wpIn trivial ?_⟩
      have sB : Sat W (bl ((w.heap.size + 1, Ch.obj (.loop (rec .ready none))) :: (w.heap.size, dfr) :: h)) _ W := Sat.begin hp hnd
      have hrnd := round (w.heap.size + 1) w.heap.size ys y hok h W _ (.obj (.loop (rec .busy none))) hI sW0 ⟨((ps.zip y).foldl (fun t (p, v) => t.setIfInBounds p v) a.tmps), []⟩ W
        ⟨rep_bind _ _ _ (fun q hq => by
          have := List.all_eq_true.1 hps q.1 (List.of_mem_zip hq).1
          exact Nat.le_of_ble_eq_true this) hr.rep, rfl⟩ sB
      have et : ((⟨ps⟩ : Array Nat).zip ⟨y⟩).foldl (fun tmps (x : Nat × Value) => tmps.setIfInBounds x.1 x.2) a.tmps = (ps.zip y).foldl (fun t (x : Nat × Value) => t.setIfInBounds x.1 x.2) a.tmps := by
        simp
      refine wpIn_mono (by simpa [et] using hrnd) ?_
      rintro x a1 w1 ⟨ds1, e1, h1, r1, q1, rfl, rfl, h2, k1, k2⟩
      have q2 := k1 w1 q1
      have hl2 := q2.has _ _ (List.mem_cons_self)
      refine ⟨_, run_beginRound hl2 (by rw [hrec]), ?_⟩
      have q3 := q2.putObj (o := .loop (rec .busy none)) (.head)
      refine wpIn_mono (k2 a1 _ r1 (by rw [hrec] at q3 ⊢; exact q3)) ?_
      have fin : ∀ (jump : Option Code) (W3 : World) (h' : Hp), Sat W (bl ((w.heap.size + 1, Ch.obj (.loop (rec .ready none))) :: (w.heap.size, dfr) :: h)) ((w.heap.size + 1, .obj (.loop (rec .busy none))) :: (w.heap.size, dfr) :: h') W3 →
          (Instr.endRound (w.heap.size + 1) jump).run P W3 = .ok (.bool jump.isNone) (W3.putObj (w.heap.size + 1) (.loop (rec (if jump.isNone then .ready else .done) jump))) ∧
          Sat W (bl ((w.heap.size + 1, Ch.obj (.loop (rec .ready none))) :: (w.heap.size, dfr) :: h)) ((w.heap.size + 1, .obj (.loop (rec (if jump.isNone then .ready else .done) jump))) :: (w.heap.size, dfr) :: h') (W3.putObj (w.heap.size + 1) (.loop (rec (if jump.isNone then .ready else .done) jump))) := by
        intro jump W3 h' q
        have hl3 := q.has _ _ (List.mem_cons_self)
        have := run_endRound (P := P) jump hl3
        refine ⟨by rw [hrec] at this ⊢; exact this, q.putObj (.head)⟩
      rintro x a3 w3 ⟨ds3, e3, h3, r3, q4, hb⟩
      cases x with
      | normal =>
        obtain ⟨h', t1, t2⟩ := hb
        obtain ⟨u1, u2⟩ := fin none w3 h' (t1 w3 q4)
        exact ⟨_, _, u1, _, _, rfl, .inl ⟨rfl, h', rfl, t2⟩, u2⟩
      | ret =>
        obtain ⟨h', t1, t2⟩ := hb
        obtain ⟨u1, u2⟩ := fin (some .ret) w3 h' (t1 w3 q4)
        exact ⟨_, _, u1, _, _, rfl, .inr ⟨rfl, .ret, h', rfl, t2⟩, u2⟩
      | exit id =>
        obtain ⟨h', t1, t2⟩ := hb
        obtain ⟨u1, u2⟩ := fin (some (.exit id)) w3 h' (t1 w3 q4)
        exact ⟨_, _, u1, _, _, rfl, .inr ⟨rfl, .exit id, h', rfl, t2⟩, u2⟩
      | _ => exact hb.elim

end V
end Go

/- maps.Keys as an iterator, slices.AppendSeq, Collect, Sorted over it; IndexFunc, DeleteFunc: at uint32. -/
namespace Go
namespace V
open Go.RowKit
set_option linter.unusedVariables false
set_option linter.unusedSimpArgs false
theorem sub_len {α : Type} [BEq α] [LawfulBEq α] : ∀ {a b : List α}, a.Nodup → (∀ x ∈ a, x ∈ b) → a.length ≤ b.length
  | [], b, _, _ => Nat.zero_le _
  | x :: a, b, h, hs => by
    rw [List.nodup_cons] at h
    have hx := hs x (by simp)
    have h1 : ∀ y ∈ a, y ∈ b.erase x := fun y hy => (List.mem_erase_of_ne (fun (e : y = x) => h.1 (e ▸ hy))).2 (hs y (List.mem_cons_of_mem _ hy))
    have := sub_len h.2 h1
    rw [List.length_erase_of_mem hx] at this
    have := List.length_pos_of_mem hx
    simp; omega
theorem nodup_of_map {α β : Type} {f : α → β} {l : List α} (h : (l.map f).Nodup) : l.Nodup := (List.pairwise_map.1 h).imp (fun h e => h (congrArg f e))
abbrev kvQ (q : IntKind) (z : ME) : List Value := [.int q z.1]
def okE (q : IntKind) (es : List ME) (ys : List (List Value)) : Prop := ∃ zs : List ME, (∀ z ∈ zs, z ∈ es) ∧ (zs.map ME.born).Nodup ∧ ys = zs.map (kvQ q)
def finE (q : IntKind) (es : List ME) (ys : List (List Value)) : Prop := ∃ zs : List ME, zs.Perm es ∧ ys = zs.map (kvQ q)
theorem okE.len {q : IntKind} {es : List ME} {c : Nat} (hm : MOk es c) {ys : List (List Value)} (h : okE q es ys) : ys.length ≤ es.length := by
  obtain ⟨zs, h1, h2, rfl⟩ := h
  have := sub_len (b := es.map ME.born) h2 (fun x hx => by obtain ⟨z, hz, rfl⟩ := List.mem_map.1 hx; exact List.mem_map.2 ⟨z, h1 z hz, rfl⟩)
  simpa using this
theorem okE.last {q : IntKind} {es : List ME} {ys : List (List Value)} {y : List Value} (h : okE q es (ys ++ [y])) : ∃ k : Int, y = [.int q k] := by
  obtain ⟨zs, h1, h2, h3⟩ := h
  have : y ∈ zs.map (kvQ q) := by rw [← h3]; simp
  obtain ⟨z, _, rfl⟩ := List.mem_map.1 this
  exact ⟨z.1, rfl⟩
theorem OwnS.upto {E m n c b o : Nat} {vs : List Value} {h : Hp} (k : OwnS E m (.slice (some ⟨b, o, none⟩) n c) n vs h) {i : Nat} (hi : i ≤ n) : OwnS E m (.slice (some ⟨b, o, none⟩) i c) i (vs.take (i * m)) h := by
  rcases k with ⟨h0, ⟨h3, _⟩ | ⟨b', o', cap, l', h1, h2, h3, h4, h5⟩⟩
  · cases h3
  · cases h1
    have := Nat.mul_le_mul_right m hi
    refine ⟨by rw [List.length_take, h0]; omega, .inr ⟨b, o, c, l', rfl, h2, by omega, h4, ?_⟩⟩
    rw [← h5, List.take_take]; congr 1; omega
end V
end Go
namespace Go.Proofs.Ytcbppikkoelimaa
open Go.V
open Go.Sort (ltInt)
set_option linter.unusedVariables false
set_option linter.unusedSimpArgs false
set_option maxRecDepth 20000

structure KS where
  zs : List ME
  p : Hp
abbrev MB32 (bm : Nat) (es : List ME) (c : Nat) : Nat × Ch := (bm, Ch.obj (mapOf .u32 es c))
abbrev MX32 (bc bm : Nat) : Nat × Ch := (bc, Ch.cells [.map (some bm)] 74)
abbrev KF32 (bc : Nat) : Value := .func (.func 78) #[] #[.pointer (some ⟨bc, 0, none⟩)]
theorem Keys32_ok (w : World) (bm : Nat) : Does Try.prog 67 [.map (some bm)] [] w (fun v hs => ∃ bc, v = KF32 bc ∧ hs = [MX32 bc bm]) := by
  refine Does.of (n := 4) Try.func67 rfl rfl rfl rfl ?_
  refine .seq ((.region (.nw (.box rfl rfl) fun b1 => (.v (.assign rfl) (.nil ?_)))))
  refine .seq ((.region (.v (.makeFunc (us := []) rfl rfl) (.v (.assign rfl) (.nil ?_)))))
  exact .ret ⟨[_], ⟨rfl, trivial⟩, b1, rfl, rfl⟩
set_option maxRecDepth 20000 in
theorem Keys32_its (w : World) (pre : Hp) (bc bm : Nat) (es : List ME) (c : Nat) (hm : MOk es c) (hM : MX32 bc bm ∈ pre) :
    ItsS Try.prog 78 [.pointer (some ⟨bc, 0, none⟩)] [MB32 bm es c] (okE .u32 es) (finE .u32 es) w pre := by
  intro l J Jx hJ0 hkp hyield
  haveI : Mem bc (.cells [.map (some bm)] 74) pre := ⟨hM⟩
  haveI : Mem bm (.obj (mapOf .u32 es c)) pre := ⟨hkp _ _ hJ0 (by simp)⟩
  refine Does.ofF (n := 14) Try.func78 rfl rfl rfl rfl ?_
  refine .seq (.region (.v (.load (v := .map (some bm)) rfl (.one rfl)) (.nw (.range rfl) fun r => (.nil ?_))))
  refine .block (.loop (X := KS) (fun x => [(0, .func (.yield l) #[] #[]), (5, .pointer (some ⟨r, 0, none⟩))]) (fun x => (r, iter_ bm c (x.zs.map ME.born) c) :: x.p) (fun x => (∀ z ∈ x.zs, z ∈ es) ∧ (x.zs.map ME.born).Nodup ∧ J (x.zs.map (kvQ .u32)) x.p) (fun x => es.length - x.zs.length) ⟨[], pre⟩ ⟨by simp, by simp, hJ0⟩ (.cons rfl (.cons rfl (.nil _))) (fun _ s => s) ?_)
  rintro ⟨zs, p⟩ ⟨h1, h2, hJ⟩
  dsimp only at h1 h2 hJ ⊢
  haveI : Mem bm (.obj (mapOf .u32 es c)) p := ⟨hkp _ _ hJ (by simp)⟩
  refine .seq (.region (.ef (.next (r := r) (b := bm) (c := c) (q := .u32) (es := es) (seen := zs.map ME.born) rfl (fun y hy => hm.c y hy) (Nat.le_refl _)) ?_))
  rintro _ _ (⟨rfl, hall, rfl⟩ | ⟨y, hy, hns, rfl, rfl⟩)
  · refine .v (.extract rfl rfl) (.nil ?_)
    refine .seq (.cond (b := false) rfl (fun h => absurd h (by simp)) (fun _ => .exit ?_))
    have hp : zs.Perm es := (List.perm_ext_iff_of_nodup (nodup_of_map h2) (nodup_of_map hm.b)).2 fun z => ⟨h1 z, fun hz => by
      obtain ⟨z', hz', e⟩ := List.mem_map.1 (hall z hz)
      rwa [← nodup_inj hm.b (h1 z' hz') hz e]⟩
    exact ⟨.inl rfl, [], p, [], rfl, fun _ s => s.sub (List.sublist_cons_self _ _), trivial, .inl ⟨_, ⟨zs, hp, rfl⟩, hJ⟩⟩
  · refine .v (.extract rfl rfl) (.nil ?_)
    refine .seq (.cond (b := true) rfl (fun _ => .skip ?_) (fun h => absurd h (by simp)))
    refine .block (.seq (.region (.v (.entry rfl hy hm.b) (.v (.extract rfl rfl) (.v (.assign rfl) (.nil ?_))))))
    have n1 : ∀ z ∈ zs ++ [y], z ∈ es := fun z hz => by rcases List.mem_append.1 hz with h | h; exact h1 z h; rw [List.mem_singleton.1 h]; exact hy
    have n2 : ((zs ++ [y]).map ME.born).Nodup := by rw [List.map_append]; exact List.nodup_append.2 ⟨h2, by simp, fun a ha b hb e => by simp at hb; subst hb; exact hns (e ▸ ha)⟩
    have n3 := sub_len (b := es.map ME.born) n2 (fun x hx => by obtain ⟨z, hz, rfl⟩ := List.mem_map.1 hx; exact List.mem_map.2 ⟨z, n1 z hz, rfl⟩)
    simp only [List.length_map, List.length_append, List.length_singleton] at n3
    refine .seq (.regionY (.v (.move rfl) (.v (.move rfl) ?_)))
    refine .yield (vals := kvQ .u32 y) (pre := p) (fr := [_]) rfl rfl (List.perm_append_comm (l₁ := [_])) (fun W s => hyield (zs.map (kvQ .u32)) (kvQ .u32 y) ⟨zs ++ [y], n1, n2, by simp⟩ W p hJ (s.sub (List.sublist_cons_self _ _))) ?_
    rintro _ h' (⟨rfl, hJ'⟩ | ⟨rfl, hJx⟩)
    · refine .v (.not rfl) (.nil ?_)
      refine .cond (b := false) rfl (fun h => absurd h (by simp)) (fun _ => .skip ?_)
      refine ⟨rfl, ⟨zs ++ [y], h'⟩, ⟨n1, n2, by rw [List.map_append]; exact hJ'⟩, by show es.length - (zs ++ [y]).length < es.length - zs.length; rw [List.length_append, List.length_singleton]; omega, .cons rfl (.cons rfl (.nil _)), fun _ s => ?_⟩
      rw [List.map_append]
      exact s.perm List.perm_append_comm
    · refine .v (.not rfl) (.nil ?_)
      refine .cond (b := true) rfl (fun _ => ?_) (fun h => absurd h (by simp))
      exact .ret ⟨.inr rfl, [], h', [], rfl, fun _ s => s.sub (List.sublist_append_left _ _), trivial, .inr hJx⟩
set_option maxRecDepth 20000 in
theorem appSeq32_ok (w : World) (bc bm : Nat) (es : List ME) (c : Nat) (hm : MOk es c) (hlen : es.length ≤ 1000000000000) :
    Does Try.prog 83 [.slice none 0 0, KF32 bc] [MX32 bc bm, MB32 bm es c] w (fun v hs => ∃ zs h, zs.Perm (es.map (·.1)) ∧ OwnS 25 1 v zs.length (ints .u32 zs) h ∧ hs = h ++ [MX32 bc bm, MB32 bm es c]) := by
  refine Does.ofF (n := 13) Try.func83 rfl rfl rfl rfl ?_
  refine .seq ((.region (.nw (.box rfl rfl) fun b2 => (.v (.assign rfl) (.nil ?_)))))
  refine .seq (.seq ((.region (.v (.move rfl) (.nil ?_)))))
  refine .block (.rangeFuncS [MB32 bm es c] (okE .u32 es) (finE .u32 es) (fun ys h => ∃ v h' zs, ys = zs.map (fun z : Int => [Value.int .u32 z]) ∧ h = h' ++ [(b2, Ch.cells [v] 115), MX32 bc bm, MB32 bm es c] ∧ OwnS 25 1 v zs.length (ints .u32 zs) h') (fun _ _ => False) rfl
    ⟨_, [], [], rfl, rfl, OwnS.nil _ _⟩ (fun ys h hI x hx => ?_) rfl (fun ys y hok => by obtain ⟨k, rfl⟩ := hok.last; rfl) (fun p q W s => ?_) (fun l D ys y hok h W rc rc' hI sW => ?_) (fun D ys h hf hI => ?_) (fun _ _ _ h => h.elim))
  · obtain ⟨v, h', zs, _, rfl, _⟩ := hI
    simp at hx; subst hx; simp
  · exact Keys32_its W _ bc bm es c hm (by simp)
  · have hln := okE.len hm hok
    obtain ⟨k, rfl⟩ := hok.last
    obtain ⟨v, h', zs, rfl, rfl, ho⟩ := hI
    simp only [List.length_append, List.length_map, List.length_singleton] at hln
    refine .region (.v (.assign rfl) (.nil ?_))
    refine ⟨rfl, rfl, h' ++ [_, _, _], fun _ s => s, ?_⟩
    refine .block (.region (.v (.load (v := v) rfl (.one rfl)) (.v (.move rfl) (.push (h := h') (oc := [.int .u32 k]) (c := zs.length) (vs := ints .u32 zs) rfl rfl ho rfl rfl rfl (by omega) (by omega) fun b v' h2 o2 => ?_))))
    obtain ⟨A1, d1, rfl⟩ := OwnS.slice o2
    refine .st (.storeL (l' := [.slice A1 (zs.length + 1) d1]) rfl rfl rfl) (.nil ?_)
    have ep : List.Perm (h2 ++ [(l, rc'), (D, dfr), (b2, Ch.cells [Value.slice A1 (zs.length + 1) d1] 115), MX32 bc bm, MB32 bm es c]) ((l, rc') :: (D, dfr) :: (h2 ++ [(b2, Ch.cells [.slice A1 (zs.length + 1) d1] 115), MX32 bc bm, MB32 bm es c])) := by
      refine (List.perm_append_comm).trans ?_
      exact (((List.perm_append_comm (l₁ := [(b2, _), MX32 bc bm, MB32 bm es c])).cons _).cons _)
    refine ⟨_, fun _ s => s.perm ep, _, h2, zs ++ [k], by simp, rfl, ?_⟩
    rw [List.length_append, List.length_singleton, show ints .u32 (zs ++ [k]) = ints .u32 zs ++ [.int .u32 k] by simp [ints]]
    exact o2
  · obtain ⟨v, h', zs, rfl, rfl, ho⟩ := hI
    obtain ⟨z2, hp, he⟩ := hf
    have hzz : zs = z2.map (·.1) := by
      have := congrArg (List.map (fun x : List Value => match x with | [.int _ k] => k | _ => 0)) he
      simpa [List.map_map, Function.comp_def] using this
    refine .seq ((.region (.v (.load (v := v) rfl (.one rfl)) (.v (.assign rfl) (.nil ?_)))))
    refine .ret ?_
    refine ⟨.inr rfl, [D], h' ++ [MX32 bc bm, MB32 bm es c], [_], rfl, fun _ s => ?_, ⟨rfl, trivial⟩, zs, h', ?_, ho, rfl⟩
    · refine s.sub ?_
      exact (List.Sublist.append (List.Sublist.refl h') (List.sublist_cons_self _ _)).cons_cons _
    · rw [hzz]; exact hp.map _
theorem collect32_ok (w : World) (bc bm : Nat) (es : List ME) (c : Nat) (hm : MOk es c) (hlen : es.length ≤ 1000000000000) :
    Does Try.prog 76 [KF32 bc] [MX32 bc bm, MB32 bm es c] w (fun v hs => ∃ zs h, zs.Perm (es.map (·.1)) ∧ OwnS 25 1 v zs.length (ints .u32 zs) h ∧ hs = h ++ [MX32 bc bm, MB32 bm es c]) := by
  refine Does.of (n := 5) Try.func76 rfl rfl rfl rfl ?_
  refine .seq ((.region (.v (.assign rfl) (.nil ?_))))
  refine .seq ((.region (.v (.move rfl) ?_)))
  refine .ef (.callT [MX32 bc bm, MB32 bm es c] rfl rfl fun w s => appSeq32_ok w bc bm es c hm hlen) ?_
  rintro _ _ ⟨_, ⟨zs, h, hp, ho, rfl⟩, rfl⟩
  refine .v (.assign rfl) (.nil ?_)
  exact .ret ⟨[_], ⟨rfl, trivial⟩, zs, h, hp, ho, by simp⟩
/-! ### the empty row -/
theorem ins32_nil (w : World) : Does Try.prog 87 [.slice none 0 0, .int .i64 0, .int .i64 0] [] w (fun _ hs => hs = []) := by
  refine Does.of (n := 49) Try.func87 rfl rfl rfl rfl ?_
  refine .seq ((.region (.v (.move rfl) (.v (.addE 1 rfl rfl (by omega) (by omega)) (.v (.assign rfl) (.nil ?_))))))
  refine .block (.loop (X := Unit) (fun x => [(2, .int .i64 0), (6, .int .i64 1)]) (fun x => []) (fun x => True) (fun x => 0) () trivial (.cons rfl (.cons rfl (.nil _))) (fun _ s => s) ?_)
  rintro _ _
  refine .seq (.seq ((.region (.v (.move rfl) (.v (.move rfl) (.v (.lss rfl rfl) (.nil ?_)))))))
  refine .cond_false rfl (.exit ?_)
  exact ⟨[], trivial, rfl⟩
theorem pdq32_nil (w : World) (t : Nat) : Does Try.prog 84 [.slice none 0 0, .int .i64 0, .int .i64 0, .int .i64 t] [] w (fun _ hs => hs = []) := by
  refine Does.of (n := 134) Try.func84 rfl rfl rfl rfl ?_
  refine .seq ((.region (.v (.assign rfl) (.nil ?_))))
  refine .seq ((.region (.v (.assign rfl) (.nil ?_))))
  refine .block (.loop (X := Unit) (fun x => [(0, .slice none 0 0), (1, .int .i64 0), (2, .int .i64 0)]) (fun x => []) (fun x => True) (fun x => 0) () trivial (.cons rfl (.cons rfl (.cons rfl (.nil _)))) (fun _ s => s) ?_)
  rintro _ _
  refine .block (.seq ((.region (.v (.move rfl) (.v (.move rfl) (.v (.subE 0 rfl rfl (by omega) (by omega)) (.v (.assign rfl) (.nil ?_))))))))
  refine .seq (.seq ((.region (.v (.move rfl) (.v (.leq rfl rfl) (.nil ?_))))))
  refine .cond_dec rfl (fun h1 => ?_) (fun h1 => absurd (by decide) h1)
  refine .seq ((.region (.v (.move rfl) (.v (.move rfl) (.v (.move rfl) ?_)))))
  refine .ef (.call0 rfl rfl fun w s => ins32_nil w) ?_
  rintro _ _ ⟨_, rfl, rfl⟩
  refine .nil ?_
  exact .ret ⟨[], trivial, rfl⟩
theorem sort32_nil (w : World) : Does Try.prog 77 [.slice none 0 0] [] w (fun _ hs => hs = []) := by
  refine Does.of (n := 11) Try.func77 rfl rfl rfl rfl ?_
  refine .seq ((.region (.v (.move rfl) (.v (.len rfl) (.v (.assign rfl) (.nil ?_))))))
  refine .region (.v (.move rfl) (.v (.move rfl) (.v (.move rfl) (.v (.convE 0 rfl (wrap_u64_in (by omega))) ?_))))
  refine .ef (.call0 rfl rfl fun w s => len_ok w 0 (by omega)) ?_
  rintro _ _ ⟨_, ⟨t, h1, h2, rfl, rfl⟩, rfl⟩
  refine .ef (.call0 rfl rfl fun w s => pdq32_nil w t) ?_
  rintro _ _ ⟨_, rfl, rfl⟩
  refine .nil ?_
  exact ⟨[], trivial, rfl⟩
theorem srt_sorted (z : List Int) : (srt z).Pairwise (fun x y => x ≤ y) := by
  have := List.pairwise_mergeSort (le := fun x y => !ltInt y x) (fun a b c h1 h2 => by simp [ltInt] at *; omega) (fun a b => by simp [ltInt]; omega) z
  exact this.imp (fun h => by simpa [ltInt] using h)
theorem srt_perm (z : List Int) : (srt z).Perm z := List.mergeSort_perm ..
theorem srt_of {y z : List Int} (hp : y.Perm z) (hs : y.Pairwise (fun x y => x ≤ y)) : srt z = y :=
  List.Perm.eq_of_pairwise (le := fun x y => x ≤ y) (fun a b _ _ h1 h2 => by omega) (srt_sorted z) hs ((srt_perm z).trans hp.symm)
theorem srt_congr {y z : List Int} (hp : y.Perm z) : srt y = srt z := srt_of ((srt_perm z).trans hp.symm) (srt_sorted z)
theorem sorted32_ok (w : World) (bc bm : Nat) (es : List ME) (c : Nat) (hm : MOk es c) (hlen : es.length ≤ 1000000000000) :
    Does Try.prog 66 [KF32 bc] [MX32 bc bm, MB32 bm es c] w (fun v hs => ∃ h, OwnS 25 1 v (srt (es.map (·.1))).length (ints .u32 (srt (es.map (·.1)))) h ∧ hs = h ++ [MX32 bc bm, MB32 bm es c]) := by
  refine Does.of (n := 9) Try.func66 rfl rfl rfl rfl ?_
  refine .seq ((.region (.v (.assign rfl) (.nil ?_))))
  refine .seq ((.region (.v (.move rfl) ?_)))
  refine .ef (.callT [MX32 bc bm, MB32 bm es c] rfl rfl fun w s => collect32_ok w bc bm es c hm hlen) ?_
  rintro _ _ ⟨_, ⟨zs, h, hp, ho, rfl⟩, rfl⟩
  refine .v (.assign rfl) (.nil ?_)
  have hl := hp.length_eq
  rw [List.length_map] at hl
  rw [← srt_congr hp, srt_len]
  rcases ho.2 with ⟨rfl, h0, rfl⟩ | ⟨b, o, cap, l, rfl, rfl, h3, h4, h5⟩
  · have hz : zs = [] := List.length_eq_zero_iff.1 h0
    subst hz
    refine .seq ((.region (.v (.move rfl) ?_)))
    refine .ef (.call0 rfl rfl fun w s => sort32_nil w) ?_
    rintro _ _ ⟨_, rfl, rfl⟩
    refine .nil ?_
    refine .seq ((.region (.v (.move rfl) (.v (.assign rfl) (.nil ?_)))))
    exact .ret ⟨[_], ⟨rfl, trivial⟩, [], by rw [show srt [] = [] from List.mergeSort_nil ..]; exact OwnS.nil _ _, by simp⟩
  · refine .seq ((.region (.v (.move rfl) ?_)))
    refine .ef (.callT [(b, .cells l 25)] rfl rfl fun w s => sort32_ok w ho (by omega)) ?_
    rintro _ _ ⟨_, ⟨l', rfl, k2⟩, rfl⟩
    refine .nil ?_
    refine .seq ((.region (.v (.move rfl) (.v (.assign rfl) (.nil ?_)))))
    exact .ret ⟨[_], ⟨rfl, trivial⟩, [(b, .cells l' 25)], k2, by simp⟩
/-! ### IndexFunc, DeleteFunc -/
/-- a closure that says p of a number, lent some blocks -/
abbrev Del32 (g : Nat) (cap : List Value) (fr : Hp) (p : Int → Bool) : Prop := ∀ (w : World) (x : Int), Does Try.prog g (.int .u32 x :: cap) fr w (fun v h => v = .bool (p x) ∧ h = fr)
def ixF (p : Int → Bool) (z : List Int) : Int := match z.findIdx? p with | some i => i | none => -1
structure FI where
  i : Nat
set_option maxRecDepth 20000 in
theorem index32_ok (w : World) {b o c n : Nat} {d : Array Int} {l : List Value} (k : So32 b o c n d l) (hn : n < 2305843009213693952) (g : Nat) [hg : FnT Try.prog g] (cap : List Value) (fr : Hp) (p : Int → Bool) (hd : Del32 g cap fr p) :
    Does Try.prog 79 [.slice (some ⟨b, o, none⟩) n c, .func (.func g) #[] ⟨cap⟩] ((b, .cells l 25) :: fr) w (fun v hs => v = .int .i64 (ixF p d.toList) ∧ hs = (b, .cells l 25) :: fr) := by
  refine Does.of (n := 19) Try.func79 rfl rfl rfl rfl ?_
  refine .seq ((.region (.v (.assign rfl) (.nil ?_))))
  refine .seq (.seq ((.region (.v (.move rfl) (.v (.len rfl) (.v (.move rfl) (.nil ?_)))))))
  refine .block (.loop (X := Nat) (fun x => [(0, .slice (some ⟨b, o, none⟩) n c), (1, .func (.func g) #[] ⟨cap⟩), (7, .int .i64 n), (8, .int .i64 (x : Nat))]) (fun _ => (b, .cells l 25) :: fr) (fun x => x ≤ n ∧ ∀ i, i < x → p d[i]! = false) (fun x => n - x) 0 ⟨Nat.zero_le _, fun i h => absurd h (by omega)⟩ (.cons rfl (.cons rfl (.cons rfl (.cons rfl (.nil _))))) (fun _ s => s) ?_)
  rintro i ⟨hi, hf⟩
  try dsimp only at hi hf ⊢
  refine .seq ((.region (.v (.lss rfl rfl) (.nil ?_))))
  refine .seq (.cond_dec rfl (fun h1 => .skip ?_) (fun h1 => .exit ?_))
  · have hin : i < n := by omega
    refine .seq (.block (.seq ((.region (.v (.move rfl) (.v (.assign rfl) (.nil ?_)))))))
    refine .seq ((.region (.v (.move rfl) (.v (.move rfl) (.v (.move rfl) (.v (.indexN i rfl rfl hin) (.v (.load (v := .int .u32 d[i]!) rfl (k.at_ hin (by simp))) ?_)))))))
    refine .pl (v := .bool (p d[i]!)) (pre := fr) [(b, .cells l 25)] rfl rfl (List.perm_append_comm (l₁ := [_])) (fun w s => hd w _) ?_
    refine .nil ?_
    refine .cond rfl (fun h2 => ?_) (fun h2 => .skip ?_)
    · refine .seq ((.region (.v (.move rfl) (.v (.assign rfl) (.nil ?_)))))
      refine .ret ⟨[_], ⟨rfl, trivial⟩, ?_, rfl⟩
      have : d.toList.findIdx? p = some i := by
        rw [List.findIdx?_eq_some_iff_getElem]
        refine ⟨by simpa [k.sz] using hin, ?_, fun j hj => ?_⟩
        · have hs : i < d.size := by rw [k.sz]; exact hin
          have : d[i]! = d[i] := getElem!_pos d i hs
          simpa [this] using h2
        · have h3 := hf j hj
          have hs : j < d.size := by rw [k.sz]; omega
          have : d[j]! = d[j] := getElem!_pos d j hs
          simpa [this] using h3
      rw [ixF, this]; rfl
    · refine .region (.v (.addE ((i + 1 : Nat) : Int) rfl rfl (by omega) (by omega)) (.v (.move rfl) (.nil ?_)))
      exact ⟨i + 1, ⟨by omega, fun j hj => by rcases Nat.lt_succ_iff_lt_or_eq.1 hj with h | rfl; exact hf j h; exact h2⟩, by omega, .cons rfl (.cons rfl (.cons rfl (.cons rfl (.nil _)))), fun _ s => s⟩
  · refine .seq ((.region (.v (.assign rfl) (.nil ?_))))
    refine .ret ⟨[_], ⟨rfl, trivial⟩, ?_, rfl⟩
    have : d.toList.findIdx? p = none := by
      rw [List.findIdx?_eq_none_iff]
      intro x hx
      obtain ⟨j, hj, rfl⟩ := List.getElem_of_mem hx
      have hj' : j < n := by rw [← k.sz]; simpa using hj
      have h3 := hf j (by omega)
      have hs : j < d.size := by rw [k.sz]; exact hj'
      have : d[j]! = d[j] := getElem!_pos d j hs
      rw [this] at h3
      simpa using h3
    rw [ixF, this]; rfl
theorem index32_nil (w : World) (g : Nat) (cap : List Value) : Does Try.prog 79 [.slice none 0 0, .func (.func g) #[] ⟨cap⟩] [] w (fun v hs => v = .int .i64 (-1) ∧ hs = []) := by
  refine Does.of (n := 19) Try.func79 rfl rfl rfl rfl ?_
  refine .seq ((.region (.v (.assign rfl) (.nil ?_))))
  refine .seq (.seq ((.region (.v (.move rfl) (.v (.len rfl) (.v (.move rfl) (.nil ?_)))))))
  refine .block (.loop (X := Unit) (fun x => [(7, .int .i64 0), (8, .int .i64 0)]) (fun _ => []) (fun x => True) (fun x => 0) () trivial (.cons rfl (.cons rfl (.nil _))) (fun _ s => s) ?_)
  rintro _ _
  refine .seq ((.region (.v (.lss rfl rfl) (.nil ?_))))
  refine .seq (.cond_false rfl (.exit ?_))
  refine .seq ((.region (.v (.assign rfl) (.nil ?_))))
  exact .ret ⟨[_], ⟨rfl, trivial⟩, rfl, rfl⟩
theorem delete32_nil (w : World) (g : Nat) (cap : List Value) : Does Try.prog 68 [.slice none 0 0, .func (.func g) #[] ⟨cap⟩] [] w (fun v hs => v = .slice none 0 0 ∧ hs = []) := by
  refine Does.of (n := 42) Try.func68 rfl rfl rfl rfl ?_
  refine .seq ((.region (.v (.assign rfl) (.nil ?_))))
  refine .seq ((.region (.v (.move rfl) (.v (.move rfl) ?_))))
  refine .ef (.call0 rfl rfl fun w s => index32_nil w g cap) ?_
  rintro _ _ ⟨_, ⟨rfl, rfl⟩, rfl⟩
  refine .v (.assign rfl) (.nil ?_)
  refine .seq (.seq ((.region (.v (.move rfl) (.v (.eqi rfl rfl) (.nil ?_))))))
  refine .cond_dec rfl (fun h1 => ?_) (fun h1 => absurd rfl h1)
  refine .seq ((.region (.v (.move rfl) (.v (.assign rfl) (.nil ?_)))))
  exact .ret ⟨[_], ⟨rfl, trivial⟩, rfl, rfl⟩
/-- behind j of z the first i of d are what is kept -/
structure DelI (p : Int → Bool) (z : List Int) (d : Array Int) (i j : Nat) : Prop where
  ij : i < j
  jn : j ≤ z.length
  tk : d.toList.take i = (z.take j).filter (fun x => !p x)
  dr : d.toList.drop j = z.drop j
  sz : d.size = z.length
theorem DelI.start {p : Int → Bool} {z : List Int} {i : Nat} (h : z.findIdx? p = some i) : DelI p z z.toArray i (i + 1) := by
  rw [List.findIdx?_eq_some_iff_getElem] at h
  obtain ⟨h1, h2, h3⟩ := h
  refine ⟨by omega, by omega, ?_, rfl, by simp⟩
  rw [List.take_succ_eq_append_getElem h1, List.filter_append]
  simp only [List.filter_cons, h2, Bool.not_true, Bool.false_eq_true, if_false, List.filter_nil, List.append_nil]
  rw [List.filter_eq_self.2]
  intro x hx
  obtain ⟨j, hj, rfl⟩ := List.getElem_of_mem hx
  rw [List.length_take] at hj
  have := h3 j (by omega)
  simpa using this
theorem DelI.get {p : Int → Bool} {z : List Int} {d : Array Int} {i j : Nat} (h : DelI p z d i j) (hj : j < z.length) : d[j]! = z[j] := by
  rw [getElem!_pos d j (by rw [h.sz]; exact hj)]
  have := h.dr
  rw [List.drop_eq_getElem_cons (by simpa [h.sz] using hj), List.drop_eq_getElem_cons hj] at this
  have := (List.cons.inj this).1
  simpa using this
theorem DelI.skip {p : Int → Bool} {z : List Int} {d : Array Int} {i j : Nat} (h : DelI p z d i j) (hj : j < z.length) (hp : p d[j]! = true) : DelI p z d i (j + 1) := by
  rw [h.get hj] at hp
  refine ⟨by have := h.ij; omega, hj, ?_, ?_, h.sz⟩
  · rw [List.take_succ_eq_append_getElem hj, List.filter_append, h.tk]; simp [hp]
  · have := congrArg List.tail h.dr
    simpa using this
theorem DelI.put {p : Int → Bool} {z : List Int} {d : Array Int} {i j : Nat} (h : DelI p z d i j) (hj : j < z.length) (hp : p d[j]! = false) : DelI p z (d.setIfInBounds i d[j]!) (i + 1) (j + 1) := by
  have hg := h.get hj
  have hij := h.ij
  rw [hg] at hp ⊢
  have hsz := h.sz
  refine ⟨by omega, hj, ?_, ?_, by simp [hsz]⟩
  · rw [List.take_succ_eq_append_getElem hj, List.filter_append, ← h.tk]
    rw [Array.toList_setIfInBounds, List.take_succ_eq_append_getElem (by simp [hsz]; omega)]
    simp [hp]
    exact List.take_set_of_le (Nat.le_refl _)
  · rw [Array.toList_setIfInBounds, List.drop_set_of_lt (by omega)]
    have := congrArg List.tail h.dr
    simpa using this
structure DLS where
  i : Nat
  j : Nat
  d : Array Int
  l : List Value
set_option maxRecDepth 20000 in
theorem delete32_ok (w : World) {b o c : Nat} {z : List Int} {l : List Value} (k : OwnS 25 1 (.slice (some ⟨b, o, none⟩) z.length c) z.length (ints .u32 z) [(b, .cells l 25)]) (hn : z.length < 2305843009213693952) (g : Nat) [hg : FnT Try.prog g] (cap : List Value) (fr : Hp) (p : Int → Bool) (hd : Del32 g cap fr p) :
    Does Try.prog 68 [.slice (some ⟨b, o, none⟩) z.length c, .func (.func g) #[] ⟨cap⟩] ((b, .cells l 25) :: fr) w (fun v hs => ∃ l', OwnS 25 1 v (z.filter fun x => !p x).length (ints .u32 (z.filter fun x => !p x)) [(b, .cells l' 25)] ∧ hs = (b, .cells l' 25) :: fr) := by
  have k0 : So32 b o c z.length z.toArray l := ⟨by simp, by simpa using k⟩
  refine Does.of (n := 42) Try.func68 rfl rfl rfl rfl ?_
  refine .seq ((.region (.v (.assign rfl) (.nil ?_))))
  refine .seq ((.region (.v (.move rfl) (.v (.move rfl) ?_))))
  refine .pl (v := .int .i64 (ixF p z)) (pre := (b, .cells l 25) :: fr) [] rfl rfl (by simp) (fun w s => by have := index32_ok w k0 hn g cap fr p hd; simpa using this) ?_
  refine .v (.assign rfl) (.nil ?_)
  refine .seq (.seq ((.region (.v (.move rfl) (.v (.eqi rfl rfl) (.nil ?_))))))
  cases hx : z.findIdx? p with
  | none =>
    have h1 : ixF p z = -1 := by rw [ixF, hx]
    rw [h1]
    refine .cond_dec rfl (fun h1 => ?_) (fun h1 => absurd rfl h1)
    refine .seq ((.region (.v (.move rfl) (.v (.assign rfl) (.nil ?_)))))
    have hfl : z.filter (fun x => !p x) = z := List.filter_eq_self.2 fun x hx' => by
      rw [List.findIdx?_eq_none_iff] at hx
      simpa using hx x hx'
    exact .ret ⟨[_], ⟨rfl, trivial⟩, l, by rw [hfl]; exact k, rfl⟩
  | some i =>
    have h1 : ixF p z = (i : Int) := by rw [ixF, hx]
    have d0 := DelI.start hx
    have hiz := d0.jn
    rw [h1]
    refine .cond_dec rfl (fun h1 => absurd h1 (by omega)) (fun h1 => .skip ?_)
    refine .seq (.seq ((.region (.v (.move rfl) (.v (.addE ((i + 1 : Nat) : Int) rfl rfl (by omega) (by omega)) (.v (.assign rfl) (.nil ?_)))))))
    refine .block (.loop (X := DLS) (fun x => [(0, .slice (some ⟨b, o, none⟩) z.length c), (1, .func (.func g) #[] ⟨cap⟩), (5, .int .i64 x.i), (6, .int .i64 x.j)]) (fun x => (b, .cells x.l 25) :: fr) (fun x => DelI p z x.d x.i x.j ∧ So32 b o c z.length x.d x.l) (fun x => z.length - x.j) ⟨i, i + 1, z.toArray, l⟩ ⟨d0, k0⟩ (.cons rfl (.cons rfl (.cons rfl (.cons rfl (.nil _))))) (fun _ s => s) ?_)
    clear h1 hx d0 hiz k0 k
    rintro ⟨i, j, d, l1⟩ ⟨hI, k1⟩
    dsimp only at hI k1 ⊢
    have hij := hI.ij
    have hjn := hI.jn
    refine .seq (.seq ((.region (.v (.move rfl) (.v (.move rfl) (.v (.len rfl) (.v (.lss rfl rfl) (.nil ?_))))))))
    refine .cond_dec rfl (fun h2 => .skip ?_) (fun h2 => .exit ?_)
    · have hj : j < z.length := by omega
      have hlen := k1.len
      refine .mid (X := DLS) (fun x => [(0, .slice (some ⟨b, o, none⟩) z.length c), (1, .func (.func g) #[] ⟨cap⟩), (5, .int .i64 x.i), (6, .int .i64 j)]) (fun x => (b, .cells x.l 25) :: fr) (fun x => DelI p z x.d x.i (j + 1) ∧ So32 b o c z.length x.d x.l) (.block (.seq ((.region (.v (.move rfl) (.v (.move rfl) (.v (.indexN j rfl rfl hj) (.v (.load (v := .int .u32 d[j]!) rfl (k1.at_ hj (by simp))) (.v (.assign rfl) (.nil ?_)))))))))) ?_
      · refine .seq ((.region (.v (.move rfl) (.v (.move rfl) ?_))))
        refine .pl (v := .bool (p d[j]!)) (pre := fr) [(b, .cells l1 25)] rfl rfl (List.perm_append_comm (l₁ := [_])) (fun w s => hd w _) ?_
        refine .v (.not rfl) (.nil ?_)
        refine .cond rfl (fun h3 => ?_) (fun h3 => .skip ?_)
        · refine .seq ((.region (.v (.move rfl) (.v (.move rfl) (.v (.move rfl) (.v (.indexN i rfl rfl (by omega)) (.st (.store rfl rfl rfl (by omega)) (.nil ?_))))))))
          refine .region (.v (.move rfl) (.v (.addE ((i + 1 : Nat) : Int) rfl rfl (by omega) (by omega)) (.v (.assign rfl) (.nil ?_))))
          exact ⟨⟨i + 1, 0, _, _⟩, ⟨hI.put hj (by simpa using h3), k1.set (i := i) (by omega) d[j]!⟩, .cons rfl (.cons rfl (.cons rfl (.cons rfl (.nil _)))), fun _ s => s⟩
        · exact ⟨⟨i, 0, d, l1⟩, ⟨hI.skip hj (by simpa using h3), k1⟩, .cons rfl (.cons rfl (.cons rfl (.cons rfl (.nil _)))), fun _ s => s⟩
      · rintro ⟨i2, _, d2, l2⟩ ⟨hI2, k2⟩
        dsimp only at hI2 k2 ⊢
        refine .region (.v (.move rfl) (.v (.addE ((j + 1 : Nat) : Int) rfl rfl (by omega) (by omega)) (.v (.assign rfl) (.nil ?_))))
        exact ⟨⟨i2, j + 1, d2, l2⟩, ⟨hI2, k2⟩, by show z.length - (j + 1) < z.length - j; omega, .cons rfl (.cons rfl (.cons rfl (.cons rfl (.nil _)))), fun _ s => s⟩
    · have hjz : j = z.length := by omega
      subst hjz
      have hlen := k1.len
      have hcap := k1.own.cap_.2
      have htk := hI.tk
      rw [List.take_length] at htk
      have hfl : (z.filter fun x => !p x).length = i := by rw [← htk, List.length_take]; simp [hI.sz]; omega
      refine .seq ((.region (.v (.move rfl) (.v (.move rfl) (.v (.slLo rfl rfl (by omega) (by omega)) ?_)))))
      simp only [Int.toNat_natCast]
      rw [cutA_some (by omega)]
      refine .ef0 (.clearIn (z := [.int .u32 0]) rfl rfl (by omega)) ?_
      rintro _ _ ⟨rfl, rfl⟩
      refine .nil ?_
      refine .seq ((.region (.v (.move rfl) (.v (.move rfl) (.v (.slHi rfl rfl (by omega) (by omega)) (.v (.assign rfl) (.nil ?_)))))))
      refine .ret ⟨[_], ⟨rfl, trivial⟩, _, ?_, rfl⟩
      have k3 := OwnS.upto (OwnS.spliceAt (us := zeros [.int .u32 0] (z.length - i)) (i := i) k1.own (by rw [zeros_length]; simp; omega)) (i := i) (by omega)
      rw [hfl, Int.toNat_natCast]
      have e1 : (V.splice (ints .u32 d.toList) i (zeros [.int .u32 0] (z.length - i))).take (i * 1) = ints .u32 (z.filter fun x => !p x) := by
        rw [← htk, Nat.mul_one]
        unfold V.splice
        rw [List.append_assoc, List.take_append_of_le_length (by simp [ints, hI.sz]; omega), List.take_take, Nat.min_self]
        simp [ints]
      rw [e1] at k3
      rw [Nat.mul_one]
      exact k3
end Go.Proofs.Ytcbppikkoelimaa

/- Surveil: Members of both, Close of both, New of the document, members compared. -/
namespace Go.Proofs.Ytcbppikkoelimaa
open Go.V
set_option linter.unusedVariables false
set_option linter.unusedSimpArgs false
set_option maxRecDepth 20000

theorem insM_at {m : Int} : ∀ {l : List Int} {k : Nat}, k ≤ l.length → (∀ j, (hj : j < l.length) → j < k → l[j] < m) → (∀ hk : k < l.length, ¬ l[k] < m) →
    insM m l = if (∃ hk : k < l.length, l[k] = m) then l else l.take k ++ m :: l.drop k
  | [], k, h, _, _ => by
    have : k = 0 := by simpa using h
    subst this
    rw [if_neg (by rintro ⟨h, _⟩; simp at h)]; rfl
  | x :: l, 0, _, _, h2 => by
    have h3 : ¬ x < m := h2 (by simp)
    unfold insM
    rw [if_neg h3]
    by_cases hx : x = m
    · rw [if_pos hx, if_pos ⟨by simp, hx⟩]
    · rw [if_neg hx, if_neg (by rintro ⟨_, h⟩; exact hx h)]; rfl
  | x :: l, k + 1, h, h1, h2 => by
    have hx : x < m := h1 0 (by simp) (by omega)
    unfold insM
    rw [if_pos hx, insM_at (l := l) (k := k) (by simpa using h) (fun j hj hjk => h1 (j + 1) (by simpa using hj) (by omega)) (fun hk => h2 (by simpa using hk))]
    by_cases hc : ∃ hk : k < l.length, l[k] = m
    · obtain ⟨hk, he⟩ := hc
      rw [if_pos ⟨hk, he⟩, if_pos ⟨by simpa using hk, by simpa using he⟩]
    · rw [if_neg hc, if_neg (by rintro ⟨hk, he⟩; exact hc ⟨by simpa using hk, by simpa using he⟩)]; rfl
theorem ints_app {q : IntKind} (a b : List Int) : ints q (a ++ b) = ints q a ++ ints q b := by simp [ints]
theorem ints_len {q : IntKind} (a : List Int) : (ints q a).length = a.length := by simp [ints]
theorem ints_ones {q : IntKind} (a : List Int) : ones (ints q a) = true := by
  simp only [ones, ints, List.all_map, List.all_eq_true]
  intro x _; rfl
theorem ints_at {q : IntKind} {a : List Int} {i : Nat} (h : i < a.length) : (ints q a)[i]? = some (.int q a[i]) := by simp [ints, h]
theorem insM_len (m : Int) : ∀ l : List Int, (insM m l).length ≤ l.length + 1
  | [] => by simp [insM]
  | x :: l => by
    unfold insM
    split
    · have := insM_len m l; simp; omega
    · split <;> simp
def membersTo (L : List DSn) : List Int := L.foldl (fun l x => if x.e.kind ≠ 1 ∨ x.e.mb = 0 then l else insM x.e.mb l) []
theorem membersTo_snoc (L : List DSn) (x : DSn) : membersTo (L ++ [x]) = if x.e.kind ≠ 1 ∨ x.e.mb = 0 then membersTo L else insM x.e.mb (membersTo L) := by simp [membersTo]
theorem membersTo_len : ∀ (k : Nat) (L : List DSn), L.length = k → (membersTo L).length ≤ k := by
  intro k
  induction k with
  | zero => intro L h; have := List.eq_nil_of_length_eq_zero h; subst this; simp [membersTo]
  | succ k ih =>
    intro L h
    obtain ⟨L', x, rfl⟩ : ∃ L' x, L = L' ++ [x] := ⟨L.dropLast, L.getLast (by intro h'; rw [h'] at h; simp at h), by rw [List.dropLast_concat_getLast]⟩
    rw [List.length_append, List.length_singleton] at h
    have := ih L' (by omega)
    rw [membersTo_snoc]
    split
    · omega
    · have := insM_len x.e.mb (membersTo L'); omega
structure MS where
  i : Nat
  v : Value
  h : Hp
set_option maxHeartbeats 1000000 in
theorem dmembers_ok (w : World) (b : Nat) (wn : Wn) (vO vA vC : Value) (A : Option Addr) (c : Nat) (D : DW) (rW : Rd w [] (some ⟨b, 0, none⟩) (dcells wn (.slice A D.L.length c) vO vA vC)) (rL : Rd w [] A (dsrows D.L)) (hb : D.L.length ≤ 1000000000) :
    Does Try.prog 39 [.pointer (some ⟨b, 0, none⟩)] [] w (fun v hs => OwnS 25 1 v D.members.length (ints .u32 D.members) hs) := by
  refine Does.less (Does.of (n := 82) Try.func39 rfl rfl rfl rfl ?_)
  refine .seq ((.region (.v (.assign rfl) (.nil ?_))))
  refine .seq ((.region (.ef (.buildSlice (out := []) rfl (by decide) rfl rfl) ?_)))
  rintro _ _ ⟨b0, rfl, rfl⟩
  refine .v (.assign rfl) (.nil ?_)
  refine .seq (.seq ((.region (.v (.assign rfl) (.nil ?_)))))
  refine .block (.loop (X := MS) (fun x => [(0, .pointer (some ⟨b, 0, none⟩)), (3, x.v), (4, .int .i64 x.i)]) (fun x => x.h) (fun x => x.i ≤ D.L.length ∧ OwnS 25 1 x.v (membersTo (D.L.take x.i)).length (ints .u32 (membersTo (D.L.take x.i))) x.h) (fun x => D.L.length - x.i) ⟨0, .slice (some ⟨b0, 0, none⟩) 0 0, [(b0, .cells [] 25)]⟩ ⟨Nat.zero_le _, rfl, .inr ⟨b0, 0, 0, [], rfl, rfl, Nat.le_refl _, Nat.le_refl _, rfl⟩⟩ (.cons rfl (.cons rfl (.cons rfl (.nil _)))) (fun _ s => s) ?_)
  rintro ⟨i, v, h⟩ ⟨hi, ho⟩
  dsimp only at hi ho ⊢
  obtain ⟨A1, c1, rfl⟩ := OwnS.slice ho
  refine .seq (.seq ((.region (.v (.move rfl) (.v (.move rfl) (.v (.nilCheck rfl) (.v (.fieldAddr rfl) (.v (.load (v := .slice A D.L.length c) rfl (Rd.cell rW (i := 5) rfl)) (.v (.len rfl) (.v (.lss rfl rfl) (.nil ?_)))))))))))
  refine .cond_dec rfl (fun h1 => .skip ?_) (fun h1 => .exit ?_)
  case refine_2 =>
    have hiL : i = D.L.length := by omega
    subst hiL
    rw [List.take_length] at ho ⊢
    refine .seq ((.region (.v (.move rfl) (.v (.assign rfl) (.nil ?_)))))
    exact .ret ⟨[_], ⟨rfl, trivial⟩, h, fun _ s => s, ho⟩
  have hil : i < D.L.length := by omega
  obtain ⟨b', o', rfl, hc⟩ := Rd.recs DSn.cells 22 (fun _ => rfl) rL (by omega) (by omega)
  have qm := fun hs => fldAt DSn.cells 22 (fun _ => rfl) (z := (i : Int)) (hc hs) hil 5 rfl
  have qk := fun hs => fldAt DSn.cells 22 (fun _ => rfl) (z := (i : Int)) (hc hs) hil 1 rfl
  have hnext := membersTo_snoc (D.L.take i) D.L[i]
  rw [← List.take_succ_eq_append_getElem hil] at hnext
  have hln := membersTo_len _ (D.L.take i) rfl
  rw [List.length_take] at hln
  generalize D.L[i] = x at qm qk hnext
  generalize hM : membersTo (D.L.take i) = l at ho hnext hln
  refine .mid (X := MS) (fun x => [(0, .pointer (some ⟨b, 0, none⟩)), (3, x.v), (4, .int .i64 i)]) (fun x => x.h) (fun x => OwnS 25 1 x.v (membersTo (D.L.take (i + 1))).length (ints .u32 (membersTo (D.L.take (i + 1)))) x.h) (.block (.seq ((.region (.v (.move rfl) (.v (.nilCheck rfl) (.v (.fieldAddr rfl) (.v (.load (v := .slice (some ⟨b', o', none⟩) D.L.length c) rfl (Rd.cell rW (i := 5) rfl)) (.v (.move rfl) (.v (.indexAddr rfl rfl (by omega) (by omega)) (.v (.fieldAddr rfl) (.v (.fieldAddr rfl) (.v (.load (v := .int .u32 x.e.mb) rfl (qm _)) (.v (.assign rfl) (.nil ?_))))))))))))))) ?_
  case refine_2 =>
    rintro ⟨_, v, h⟩ ho
    dsimp only at ho ⊢
    refine .region (.v (.move rfl) (.v (.addi rfl rfl (by omega)) (.v (.assign rfl) (.nil ?_))))
    exact ⟨⟨i + 1, v, h⟩, ⟨hil, ho⟩, by show D.L.length - (i + 1) < D.L.length - i; omega, .cons rfl (.cons rfl (.cons rfl (.nil _))), fun _ s => s⟩
  rw [hnext]
  clear hnext
  refine .seq (.seq ((.region (.v (.move rfl) (.v (.nilCheck rfl) (.v (.fieldAddr rfl) (.v (.load (v := .slice (some ⟨b', o', none⟩) D.L.length c) rfl (Rd.cell rW (i := 5) rfl)) (.v (.move rfl) (.v (.indexAddr rfl rfl (by omega) (by omega)) (.v (.fieldAddr rfl) (.v (.fieldAddr rfl) (.v (.load (v := .int .i64 x.e.kind) rfl (qk _)) (.v (.nei rfl rfl) (.v (.move rfl) (.or (b2 := decide (x.e.mb = 0)) 37 39 2 2 rfl rfl (fun g1 => .v (.move rfl) (.v (.eqi rfl rfl) (.nil ⟨rfl, rfl, rfl, rfl⟩))) (.nil ?_))))))))))))))))
  refine .cond rfl (fun h2 => .exit ?_) (fun h2 => .skip ?_)
  · rw [if_pos (by simpa using h2)]
    exact ⟨⟨0, .slice A1 l.length c1, h⟩, ho, .cons rfl (.cons rfl (.cons rfl (.nil _))), fun _ s => s⟩
  rw [if_neg (by simpa using h2)]
  generalize x.e.mb = m
  refine .seq ((.region (.v (.assign rfl) (.nil ?_))))
  refine .mid (X := Nat) (fun k => [(0, .pointer (some ⟨b, 0, none⟩)), (3, .slice A1 l.length c1), (4, .int .i64 i), (5, .int .u32 m), (6, .int .i64 (k : Nat))]) (fun _ => h) (fun k => (k ≤ l.length ∧ ∀ j, (hj : j < l.length) → j < k → l[j] < m) ∧ ∀ hk : k < l.length, ¬ l[k] < m) (.block (.loop (X := Nat) (fun k => [(0, .pointer (some ⟨b, 0, none⟩)), (3, .slice A1 l.length c1), (4, .int .i64 i), (5, .int .u32 m), (6, .int .i64 (k : Nat))]) (fun _ => h) (fun k => k ≤ l.length ∧ ∀ j, (hj : j < l.length) → j < k → l[j] < m) (fun k => l.length - k) 0 ⟨Nat.zero_le _, fun j hj h => absurd h (by omega)⟩ (.cons rfl (.cons rfl (.cons rfl (.cons rfl (.cons rfl (.nil _)))))) (fun _ s => s) ?_)) ?_
  · rintro k ⟨hk, hkf⟩
    by_cases hg : k < l.length
    case neg =>
      refine .seq (.seq ((.region (.v (.move rfl) (.v (.move rfl) (.v (.len rfl) (.v (.no (.lss rfl rfl) (by omega)) (.v (.move rfl) (.and (b2 := true) 45 51 6 6 rfl rfl (fun g1 => absurd g1 (by simp)) (.nil ?_))))))))))
      refine .cond_false rfl (.exit ?_)
      exact ⟨k, ⟨⟨hk, hkf⟩, fun h => absurd h hg⟩, .cons rfl (.cons rfl (.cons rfl (.cons rfl (.cons rfl (.nil _))))), fun _ s => s⟩
    obtain ⟨bl_, ol, ll, rfl, -, rfl, -, -, -⟩ := OwnS.some_ ho (by omega)
    refine .seq (.seq ((.region (.v (.move rfl) (.v (.move rfl) (.v (.len rfl) (.v (.yes (.lss rfl rfl) (by omega)) (.v (.move rfl) (.and (b2 := decide (l[k] < m)) 45 51 6 6 rfl rfl (fun g1 => .v (.move rfl) (.v (.move rfl) (.v (.indexN k rfl rfl hg) (.v (.load (v := .int .u32 l[k]) rfl (ho.at1 (fun _ h => h) (ints_at hg))) (.v (.move rfl) (.v (.lss rfl rfl) (.nil ⟨rfl, rfl, rfl, rfl⟩))))))) (.nil ?_))))))))))
    refine .cond rfl (fun h3 => .skip ?_) (fun h3 => .exit ?_)
    · have h3' : l[k] < m := by simpa using h3
      refine .block ((.region (.v (.move rfl) (.v (.addE ((k + 1 : Nat) : Int) rfl rfl (by omega) (by omega)) (.v (.assign rfl) (.nil ?_))))))
      exact ⟨k + 1, ⟨hg, fun j hj hjk => by rcases Nat.lt_succ_iff_lt_or_eq.1 hjk with h | rfl; exact hkf j hj h; exact h3'⟩, by omega, .cons rfl (.cons rfl (.cons rfl (.cons rfl (.cons rfl (.nil _))))), fun _ s => s⟩
    · exact ⟨k, ⟨⟨hk, hkf⟩, fun _ => by simpa using h3⟩, .cons rfl (.cons rfl (.cons rfl (.cons rfl (.cons rfl (.nil _))))), fun _ s => s⟩
  rintro k ⟨⟨hk, hkf⟩, hks⟩
  rw [insM_at hk hkf hks]
  by_cases hc : ∃ hk : k < l.length, l[k] = m
  · obtain ⟨hg, he⟩ := hc
    rw [if_pos ⟨hg, he⟩]
    obtain ⟨bl_, ol, ll, rfl, -, rfl, -, -, -⟩ := OwnS.some_ ho (by omega)
    refine .seq ((.region (.v (.move rfl) (.v (.move rfl) (.v (.len rfl) (.v (.no (.eqi rfl rfl) (by omega)) (.v (.move rfl) (.or (b2 := false) 59 65 6 6 rfl rfl (fun g1 => .v (.move rfl) (.v (.move rfl) (.v (.indexN k rfl rfl hg) (.v (.load (v := .int .u32 l[k]) rfl (ho.at1 (fun _ h => h) (ints_at hg))) (.v (.move rfl) (.v (.no (.nei rfl rfl) (by simp [he])) (.nil ⟨rfl, rfl, rfl, rfl⟩))))))) (.nil ?_)))))))))
    refine .cond_false rfl (.skip ?_)
    exact ⟨⟨0, _, _⟩, ho, .cons rfl (.cons rfl (.cons rfl (.nil _))), fun _ s => s⟩
  rw [if_neg hc]
  refine .seq ((.region (.v (.move rfl) (.v (.move rfl) (.v (.len rfl) (.v (.eqi rfl rfl) (.v (.move rfl) (.or (b2 := true) 59 65 6 6 rfl rfl (fun g1 => ?_) (.nil ?_)))))))))
  · have hg : k < l.length := by have := of_decide_eq_false g1; omega
    have hne : l[k] ≠ m := fun h => hc ⟨hg, h⟩
    obtain ⟨bl_, ol, ll, rfl, -, rfl, -, -, -⟩ := OwnS.some_ ho (by omega)
    refine .v (.move rfl) (.v (.move rfl) (.v (.indexN k rfl rfl hg) (.v (.load (v := .int .u32 l[k]) rfl (ho.at1 (fun _ h => h) (ints_at hg))) (.v (.move rfl) (.v (.yes (.nei rfl rfl) hne) (.nil ⟨rfl, rfl, rfl, rfl⟩))))))
  refine .cond rfl (fun _ => ?_) (fun h => absurd h (by simp))
  have et : (ints .u32 l).take k = ints .u32 (l.take k) := by simp [ints]
  have ed : (ints .u32 l).drop (k * 1) = ints .u32 (l.drop k) := by simp [ints]
  have hcap := (OwnS.cap_ ho).2
  refine .seq ((.region (.ef (.buildSlice (out := []) rfl (by decide) rfl rfl) ?_)))
  rintro _ _ ⟨b6, rfl, rfl⟩
  refine .v (.move rfl) (.v (.move rfl) (.v (.slHi rfl rfl (by omega) (by omega)) ?_))
  refine .appT (h := [(b6, .cells [] 25)]) (vs := []) (c := 0) (k := k) (news := ints .u32 (l.take k)) rfl rfl ⟨rfl, .inr ⟨b6, 0, 0, [], rfl, rfl, Nat.le_refl _, Nat.le_refl _, rfl⟩⟩ (fun w s => by
    have := (OwnS.rd ho s (no := []) (fun y hy => by simp [hy]) (by simp)).take k
    rw [et] at this
    exact this.src (by rw [ints_len, List.length_take]; omega) (by omega)) (by rw [ints_len, List.length_take]; omega) (ints_ones _) (by omega) (by omega) ?_
  intro v6 h6 o6
  refine .v (.assign rfl) (.nil ?_)
  refine .seq ((.region (.v (.move rfl) (.v (.move rfl) (.push (h := h6) (oc := [.int .u32 m]) (c := 0 + k) (vs := [] ++ ints .u32 (l.take k)) rfl rfl o6 rfl rfl rfl (by omega) (by omega) fun b7 v7 h7 o7 => .v (.assign rfl) (.nil ?_))))))
  refine .region (.v (.move rfl) (.v (.move rfl) (.v (.move rfl) (.v (.slLo rfl rfl (by omega) (by omega)) ?_))))
  refine .appT (h := h7) (vs := [] ++ ints .u32 (l.take k) ++ [.int .u32 m]) (c := 0 + k + 1) (k := l.length - k) (news := ints .u32 (l.drop k)) rfl rfl o7 (fun w s => by
    have := Rd.cut (OwnS.rd ho s (no := []) (fun y hy => by simp [hy]) (by simp)) (k := k) (cap := c1) (m := 1) (by rw [ints_len]; omega)
    rw [ed] at this
    exact this.src (by rw [ints_len, List.length_drop]; omega) (by omega)) (by rw [ints_len, List.length_drop]; omega) (ints_ones _) (by omega) (by omega) ?_
  intro v8 h8 o8
  refine .v (.assign rfl) (.nil ?_)
  refine ⟨⟨0, v8, h8⟩, ?_, .cons rfl (.cons rfl (.cons rfl (.nil _))), fun _ s => s.sub (List.sublist_append_left _ _)⟩
  have e1 : (l.take k ++ m :: l.drop k).length = 0 + k + 1 + (l.length - k) := by simp; omega
  have e2 : ints .u32 (l.take k ++ m :: l.drop k) = [] ++ ints .u32 (l.take k) ++ [.int .u32 m] ++ ints .u32 (l.drop k) := by simp [ints]
  rw [e1, e2]
  exact o8
end Go.Proofs.Ytcbppikkoelimaa

/- Surveil: Members of the watch, Close of both, New of the document, members compared. -/
namespace Go.Proofs.Ytcbppikkoelimaa
open Go.V
set_option linter.unusedVariables false
set_option linter.unusedSimpArgs false
set_option maxRecDepth 20000

theorem zero_ok (w : World) (x : Int) : Does Try.prog 69 [.int .u32 x] [] w (fun v h => v = .bool (decide (x = 0)) ∧ h = []) := by
  refine Does.of (n := 5) Try.func69 rfl rfl rfl rfl ?_
  refine .seq ((.region (.v (.assign rfl) (.nil ?_))))
  refine .seq ((.region (.v (.move rfl) (.v (.eqi rfl rfl) (.v (.assign rfl) (.nil ?_))))))
  exact .ret ⟨[_], ⟨rfl, trivial⟩, rfl, rfl⟩
def wmem (ea : List ME) : List Int := (srt (ea.map (·.1))).filter fun x => !decide (x = 0)
theorem wmembers_ok (w : World) (p : WP) (wn : Wn) (n : Int) {W : Wt} {z : WZ} (hI : WI W z) (hlen : z.ea.length ≤ 1000000000000) :
    Does Try.prog 38 [.pointer (some ⟨p.b, 0, none⟩)] (z.H p wn n) w (fun v hs => ∃ h, OwnS 25 1 v (wmem z.ea).length (ints .u32 (wmem z.ea)) h ∧ hs = h ++ z.H p wn n) := by
  obtain ⟨b, mo, mp, ma⟩ := p
  obtain ⟨eo, co, ep, cp, ea, ca, vl, hl, vc, hc⟩ := z
  have hA := hI.ao
  dsimp only at hA hlen ⊢
  refine Does.less (Does.of (n := 12) Try.func38 rfl rfl rfl rfl ?_)
  refine .seq ((.region (.v (.assign rfl) (.nil ?_))))
  refine .seq ((.region (.v (.move rfl) (.v (.nilCheck rfl) (.v (.fieldAddr rfl) (.v (.load (v := .map (some ma)) rfl (.one rfl)) ?_))))))
  refine .ef (.call0 rfl rfl fun w s => Keys32_ok w ma) ?_
  rintro _ _ ⟨_, ⟨bc, rfl, rfl⟩, rfl⟩
  refine .ef (.callT [MX32 bc ma, MB32 ma ea ca] rfl rfl fun w s => sorted32_ok w bc ma ea ca hA hlen) ?_
  rintro _ _ ⟨_, ⟨h, o1, rfl⟩, rfl⟩
  refine .v (.assign rfl) (.nil ?_)
  have hl0 : (srt (ea.map (·.1))).length = ea.length := by rw [srt_len, List.length_map]
  unfold wmem
  generalize srt (ea.map (·.1)) = z at o1 hl0 ⊢
  rcases o1.2 with ⟨rfl, h0, rfl⟩ | ⟨b', o', cap, l, rfl, rfl, h3, h4, h5⟩
  · have hz : z = [] := List.length_eq_zero_iff.1 h0
    subst hz
    refine .seq ((.region (.v (.move rfl) ?_)))
    refine .ef (.call0 rfl rfl fun w s => delete32_nil w 69 []) ?_
    rintro _ _ ⟨_, ⟨rfl, rfl⟩, rfl⟩
    refine .v (.assign rfl) (.nil ?_)
    exact .ret ⟨[_], ⟨rfl, trivial⟩, WZ.H ⟨b, mo, mp, ma⟩ wn n ⟨eo, co, ep, cp, ea, ca, vl, hl, vc, hc⟩, fun _ s => s.take, [], OwnS.nil _ _, rfl⟩
  · refine .seq ((.region (.v (.move rfl) ?_)))
    refine .ef (.callT [(b', .cells l 25)] rfl rfl fun w s => delete32_ok w o1 (by omega) 69 [] [] (fun x => decide (x = 0)) (fun w x => zero_ok w x)) ?_
    rintro v _ ⟨_, ⟨l', o2, rfl⟩, rfl⟩
    refine .v (.assign rfl) (.nil ?_)
    exact .ret ⟨[_], ⟨rfl, trivial⟩, [(b', .cells l' 25)] ++ WZ.H ⟨b, mo, mp, ma⟩ wn n ⟨eo, co, ep, cp, ea, ca, vl, hl, vc, hc⟩, fun _ s => s.take, [(b', .cells l' 25)], o2, rfl⟩
theorem wmem_eq {w : Wn} {al0 : List Al} {W : Wt} {out : List Al} {D : DW} {z : WZ} (h : Rel w al0 (W, out) D) (hI : WI W z) : wmem z.ea = D.members ∧ z.ea.length ≤ D.L.length := by
  have hk : ∀ m, m ∈ z.ea.map (·.1) ↔ W.A m = true := by
    intro m
    have h1 := hI.a m
    constructor
    · intro hm
      obtain ⟨y, hy, rfl⟩ := List.mem_map.1 hm
      cases hA : W.A y.1 with
      | true => rfl
      | false =>
        rw [hA] at h1
        exact absurd rfl (mget_none.1 h1 y hy)
    · intro hm
      rw [hm] at h1
      obtain ⟨y, hy, e, _⟩ := mget_some h1
      exact List.mem_map.2 ⟨y, hy, e⟩
  have hk2 : ∀ m, m ∈ z.ea.map (·.1) ↔ ∃ x ∈ D.L, x.e.kind = 1 ∧ x.e.mb = m := by
    intro m
    rw [hk, h.A, List.any_eq_true]
    constructor
    · rintro ⟨x, hx, hh⟩; exact ⟨x, hx, by simpa using hh⟩
    · rintro ⟨x, hx, hh⟩; exact ⟨x, hx, by simpa using hh⟩
  obtain ⟨d1, d2⟩ := D.members_spec
  constructor
  · refine List.Perm.eq_of_pairwise (le := fun x y => x ≤ y) (fun a b _ _ h1 h2 => by omega) ((srt_sorted _).filter _) (d1.imp (fun h => by omega)) ?_
    refine (List.perm_ext_iff_of_nodup ?_ (d1.imp (fun h e => by omega))).2 fun m => ?_
    · exact List.Pairwise.filter _ (((srt_perm _).nodup_iff).2 hI.ao.k)
    · unfold wmem
      rw [List.mem_filter, (srt_perm _).mem_iff, hk2, d2]
      simp
  · have := sub_len (a := z.ea.map (·.1)) (b := D.L.map (fun x => x.e.mb)) hI.ao.k (fun m hm => by
      obtain ⟨x, hx, _, e⟩ := (hk2 m).1 hm
      exact List.mem_map.2 ⟨x, hx, e⟩)
    simpa using this
/-! ### Close -/
def cntC (r m : Int) (l : List Cs) : Nat := l.countP (cls r m)
def closeTo (r m : Int) (l : List Cs) (i : Nat) : List Cs := closeL r m (l.take i) ++ l.drop i
theorem closeTo_len (r m : Int) (l : List Cs) (i : Nat) : (closeTo r m l i).length = l.length := by simp [closeTo, closeL]; omega
theorem closeTo_zero (r m : Int) (l : List Cs) : closeTo r m l 0 = l := by simp [closeTo, closeL]
theorem closeTo_all (r m : Int) (l : List Cs) : closeTo r m l l.length = closeL r m l := by simp [closeTo]
theorem closeTo_get (r m : Int) (l : List Cs) {i : Nat} (h : i < l.length) : (closeTo r m l i)[i]'(by rw [closeTo_len]; exact h) = l[i] := by
  have h1 : (closeL r m (l.take i)).length = i := by simp [closeL]; omega
  unfold closeTo
  rw [List.getElem_append_right (by omega)]
  simp [h1]
theorem closeTo_succ (r m : Int) (l : List Cs) {i : Nat} (h : i < l.length) : closeTo r m l (i + 1) = if cls r m l[i] = true then (closeTo r m l i).set i { l[i] with op := false } else closeTo r m l i := by
  have h1 : (closeL r m (l.take i)).length = i := by simp [closeL]; omega
  have e1 : closeTo r m l i = closeL r m (l.take i) ++ l[i] :: l.drop (i + 1) := by unfold closeTo; rw [List.drop_eq_getElem_cons h]
  have e2 : closeTo r m l (i + 1) = closeL r m (l.take i) ++ (if cls r m l[i] = true then { l[i] with op := false } else l[i]) :: l.drop (i + 1) := by
    unfold closeTo closeL; rw [List.take_succ_eq_append_getElem h, List.map_append, List.append_assoc]; rfl
  rw [e2, e1]
  by_cases hc : cls r m l[i] = true
  · rw [if_pos hc, if_pos hc, List.set_append_right _ _ (by omega), h1, Nat.sub_self]; rfl
  · rw [if_neg hc, if_neg hc]
theorem cntC_succ (r m : Int) (l : List Cs) {i : Nat} (h : i < l.length) : cntC r m (l.take (i + 1)) = cntC r m (l.take i) + if cls r m l[i] = true then 1 else 0 := by
  rw [List.take_succ_eq_append_getElem h]; unfold cntC; rw [List.countP_append]; simp [List.countP_cons]
theorem cntC_le (r m : Int) (l : List Cs) : cntC r m l ≤ l.length := List.countP_le_length
def clsV (r m : Int) (l : List Cs) : Value := if cntC r m l = 0 then .tuple ⟨[.int .i64 0, .int .i64 290]⟩ else .tuple ⟨[.int .i64 (cntC r m l), .int .i64 0]⟩
structure CLS where
  i : Nat
  h : Hp
theorem WI.close {W : Wt} {z : WZ} (h : WI W z) (r m : Int) {hc : Hp} (hcs : CsOwn z.vc (closeL r m W.cs) hc) : WI (W.close r m) { z with hc := hc } := ⟨h.oo, h.o, h.po, h.p, h.ao, h.a, h.l, hcs⟩
set_option maxHeartbeats 1000000 in
theorem wclose_ok (w : World) (p : WP) (wn : Wn) (n : Int) {W : Wt} {z : WZ} (hI : WI W z) (r m : Int) (hb : W.cs.length ≤ 8000000000) :
    Does Try.prog 18 [.pointer (some ⟨p.b, 0, none⟩), .int .i64 r, .int .u32 m] (z.H p wn n) w (fun v hs => v = clsV r m W.cs ∧ ∃ z', hs = z'.H p wn n ∧ WI (W.close r m) z') := by
  obtain ⟨b, mo, mp, ma⟩ := p
  obtain ⟨eo, co, ep, cp, ea, ca, vl, hl, vc, hc⟩ := z
  have oc := hI.c
  dsimp only at oc ⊢
  obtain ⟨Ac, kc, rfl⟩ := OwnS.slice oc
  have hcl := fun (hc' : Hp) (h : CsOwn (.slice Ac W.cs.length kc) (closeL r m W.cs) hc') => WI.close hI r m h
  dsimp only at hcl
  generalize hcs : W.cs = cs at oc hb hcl ⊢
  refine Does.less (Does.of (n := 48) Try.func18 rfl rfl rfl rfl ?_)
  refine .seq ((.region (.v (.assign rfl) (.v (.assign rfl) (.nil ?_)))))
  refine .seq ((.region (.v (.assign rfl) (.nil ?_))))
  refine .seq (.seq ((.region (.v (.move rfl) (.v (.nilCheck rfl) (.v (.fieldAddr rfl) (.v (.load (v := .slice Ac cs.length kc) rfl (.one rfl)) (.v (.len rfl) (.v (.move rfl) (.nil ?_))))))))))
  refine .block (.loop (X := CLS) (fun x => [(0, .pointer (some ⟨b, 0, none⟩)), (1, .int .i64 r), (2, .int .u32 m), (8, .int .i64 (cntC r m (cs.take x.i) : Nat)), (14, .slice Ac cs.length kc), (15, .int .i64 cs.length), (16, .int .i64 x.i)]) (fun x => WZ.H ⟨b, mo, mp, ma⟩ wn n ⟨eo, co, ep, cp, ea, ca, vl, hl, .slice Ac cs.length kc, x.h⟩) (fun x => x.i ≤ cs.length ∧ CsOwn (.slice Ac cs.length kc) (closeTo r m cs x.i) x.h) (fun x => cs.length - x.i) ⟨0, hc⟩ ⟨Nat.zero_le _, by rw [closeTo_zero]; exact oc⟩ (.cons rfl (.cons rfl (.cons rfl (.cons rfl (.cons rfl (.cons rfl (.cons rfl (.nil _)))))))) (fun _ s => s) ?_)
  clear oc
  rintro ⟨i, h⟩ ⟨hi, oc⟩
  dsimp only at hi oc ⊢
  refine .seq ((.region (.v (.lss rfl rfl) (.nil ?_))))
  refine .seq (.cond_dec rfl (fun h1 => .skip ?_) (fun h1 => .exit ?_))
  · have hil : i < cs.length := by omega
    have hil2 : i < (closeTo r m cs i).length := by rw [closeTo_len]; exact hil
    obtain ⟨bc, oc_, lc, rfl, -, rfl, hcap, hlc, -⟩ := OwnS.some_ oc (by omega)
    have hat := fun hs' hsub => recAt Cs.cells 6 (fun _ => rfl) (z := (i : Int)) (OwnS.at0 (w0 := w) (own := bl (WZ.H ⟨b, mo, mp, ma⟩ wn n ⟨eo, co, ep, cp, ea, ca, vl, hl, .slice (some ⟨bc, oc_, none⟩) cs.length kc, hc⟩)) (hs := hs') oc hsub) hil2
    have o2 := OwnS.setF Cs.cells (fun _ => rfl) oc 5 hil2 (by omega) (a' := { cs[i] with op := false }) (v := .bool false) (by rw [closeTo_get r m cs hil]; rfl)
    rw [closeTo_get r m cs hil] at hat
    have hsucc := closeTo_succ r m cs hil
    have hcn := cntC_succ r m cs hil
    have hcle := cntC_le r m (cs.take i)
    rw [List.length_take] at hcle
    rw [closeTo_len] at hcap
    generalize cs[i] = c at hat o2 hsucc hcn
    generalize cntC r m (cs.take i) = k at hcn hcle ⊢
    refine .mid (X := CLS) (fun x => [(0, .pointer (some ⟨b, 0, none⟩)), (1, .int .i64 r), (2, .int .u32 m), (8, .int .i64 x.i), (14, .slice (some ⟨bc, oc_, none⟩) cs.length kc), (15, .int .i64 cs.length), (16, .int .i64 i)]) (fun x => WZ.H ⟨b, mo, mp, ma⟩ wn n ⟨eo, co, ep, cp, ea, ca, vl, hl, .slice (some ⟨bc, oc_, none⟩) cs.length kc, x.h⟩) (fun x => x.i = cntC r m (cs.take (i + 1)) ∧ CsOwn (.slice (some ⟨bc, oc_, none⟩) cs.length kc) (closeTo r m cs (i + 1)) x.h) (.block (.seq ((.region (.v (.move rfl) (.v (.indexAddr rfl rfl (by omega) (by omega)) (.v (.loadA (vs := c.cells) rfl (hat _ (fun y hy => by simp at hy; subst hy; simp)) rfl) (.nw .alloc fun b10 => (.v (.assign rfl) (.st (.sw rfl rfl) (.nil ?_))))))))))) ?_
    · refine .keep ((b10, .cells c.cells 48) :: Wb b wn n mo mp ma vl (.slice (some ⟨bc, oc_, none⟩) cs.length kc) :: (bc, Ch.cells lc 48) :: M64 mo eo co :: M32 mp ep cp :: M32 ma ea ca :: hl) ?_
      refine .seq ((.region (.v (.fieldAddr rfl) (.v (.load (v := .int .i64 c.r) rfl (.one rfl)) (.v (.move rfl) (.v (.eqi rfl rfl) (.v (.move rfl) (.and (b2 := decide (c.m = m)) 25 29 4 4 rfl rfl (fun g1 => .v (.fieldAddr rfl) (.v (.load (v := .int .u32 c.m) rfl (.one rfl)) (.v (.move rfl) (.v (.eqi rfl rfl) (.nil ⟨rfl, rfl, rfl, rfl⟩))))) (.v (.move rfl) (.and (b2 := c.op) 31 33 2 2 rfl rfl (fun g2 => .v (.fieldAddr rfl) (.v (.load (v := .bool c.op) rfl (.one rfl)) (.nil ⟨rfl, rfl, rfl, rfl⟩))) (.nil ?_)))))))))))
      refine .cond rfl (fun h2 => ?_) (fun h2 => .skip ?_)
      · have h2' : cls r m c = true := h2
        rw [if_pos h2'] at hsucc hcn
        refine .seq ((.region (.v (.move rfl) (.v (.nilCheck rfl) (.v (.fieldAddr rfl) (.v (.load (v := .slice (some ⟨bc, oc_, none⟩) cs.length kc) rfl (.one rfl)) (.v (.move rfl) (.v (.indexAddr rfl rfl (by omega) (by omega)) (.v (.fieldAddr rfl) (.st (.store (b := bc) (l := lc) rfl rfl rfl (by omega)) (.nil ?_)))))))))))
        rw [Int.toNat_natCast]
        refine .region (.v (.move rfl) (.v (.addE ((k + 1 : Nat) : Int) rfl rfl (by omega) (by omega)) (.v (.assign rfl) (.nil ?_))))
        rw [← hsucc] at o2
        generalize lc.set (oc_ + i * 6 + 5) (.bool false) = lc' at o2 ⊢
        exact ⟨⟨k + 1, [(bc, .cells lc' 48)]⟩, ⟨hcn.symm, o2⟩, .cons rfl (.cons rfl (.cons rfl (.cons rfl (.cons rfl (.cons rfl (.cons rfl (.nil _))))))), fun _ s => s.take⟩
      · have h2' : ¬ cls r m c = true := by rw [show cls r m c = false from h2]; simp
        rw [if_neg h2'] at hsucc hcn
        exact ⟨⟨k, [(bc, .cells lc 48)]⟩, ⟨hcn.symm, by rw [hsucc]; exact oc⟩, .cons rfl (.cons rfl (.cons rfl (.cons rfl (.cons rfl (.cons rfl (.cons rfl (.nil _))))))), fun _ s => s.take⟩
    · rintro ⟨k', h'⟩ ⟨hk, o'⟩
      dsimp only at hk o' ⊢
      subst hk
      refine .region (.v (.addi rfl rfl (by omega)) (.v (.move rfl) (.nil ?_)))
      exact ⟨⟨i + 1, h'⟩, ⟨hil, o'⟩, by show cs.length - (i + 1) < cs.length - i; omega, .cons rfl (.cons rfl (.cons rfl (.cons rfl (.cons rfl (.cons rfl (.cons rfl (.nil _))))))), fun _ s => s⟩
  · have hiL : i = cs.length := by omega
    subst hiL
    rw [List.take_length]
    rw [closeTo_all] at oc
    have hw2 := hcl h oc
    unfold clsV
    refine .seq (.seq ((.region (.v (.move rfl) (.v (.eqi rfl rfl) (.nil ?_))))))
    refine .cond_dec rfl (fun h3 => ?_) (fun h3 => .skip ?_)
    · rw [if_pos (by omega)]
      refine .seq ((.region (.v (.assign rfl) (.v (.assign rfl) (.nil ?_)))))
      exact .ret ⟨[_, _], ⟨rfl, rfl, trivial⟩, WZ.H ⟨b, mo, mp, ma⟩ wn n ⟨eo, co, ep, cp, ea, ca, vl, hl, .slice Ac cs.length kc, h⟩, fun _ s => s, rfl, _, rfl, hw2⟩
    · rw [if_neg (by omega)]
      refine .seq ((.region (.v (.move rfl) (.v (.assign rfl) (.v (.assign rfl) (.nil ?_))))))
      exact .ret ⟨[_, _], ⟨rfl, rfl, trivial⟩, WZ.H ⟨b, mo, mp, ma⟩ wn n ⟨eo, co, ep, cp, ea, ca, vl, hl, .slice Ac cs.length kc, h⟩, fun _ s => s, rfl, _, rfl, hw2⟩
set_option maxHeartbeats 1000000 in
theorem dclose_ok (w : World) (b : Nat) (wn : Wn) (D : DW) (z : DZ) (hI : DI D z) (r m : Int) (hb : D.cs.length ≤ 8000000000) :
    Does Try.prog 19 [.pointer (some ⟨b, 0, none⟩), .int .i64 r, .int .u32 m] (z.H b wn) w (fun v hs => v = clsV r m D.cs ∧ ∃ z', hs = z'.H b wn ∧ DI (D.close r m) z') := by
  obtain ⟨vL, hL, vO, hO, vA, hA, vC, hC⟩ := z
  obtain ⟨oL, oO, oA, oc⟩ := hI
  dsimp only at oL oO oA oc ⊢
  obtain ⟨Ac, kc, rfl⟩ := OwnS.slice oc
  have hcl : ∀ hC', CsOwn (.slice Ac D.cs.length kc) (closeL r m D.cs) hC' → DI (D.close r m) ⟨vL, hL, vO, hO, vA, hA, .slice Ac D.cs.length kc, hC'⟩ := fun hC' h => ⟨oL, oO, oA, h⟩
  generalize hcs : D.cs = cs at oc hb hcl ⊢
  refine Does.less (Does.of (n := 63) Try.func19 rfl rfl rfl rfl ?_)
  refine .seq ((.region (.v (.assign rfl) (.v (.assign rfl) (.nil ?_)))))
  refine .seq ((.region (.v (.assign rfl) (.nil ?_))))
  refine .seq (.seq ((.region (.v (.assign rfl) (.nil ?_)))))
  refine .block (.loop (X := CLS) (fun x => [(0, .pointer (some ⟨b, 0, none⟩)), (1, .int .i64 r), (2, .int .u32 m), (8, .int .i64 (cntC r m (cs.take x.i) : Nat)), (9, .int .i64 x.i)]) (fun x => DZ.H b wn ⟨vL, hL, vO, hO, vA, hA, .slice Ac cs.length kc, x.h⟩) (fun x => x.i ≤ cs.length ∧ CsOwn (.slice Ac cs.length kc) (closeTo r m cs x.i) x.h) (fun x => cs.length - x.i) ⟨0, hC⟩ ⟨Nat.zero_le _, by rw [closeTo_zero]; exact oc⟩ (.cons rfl (.cons rfl (.cons rfl (.cons rfl (.cons rfl (.nil _)))))) (fun _ s => s) ?_)
  clear oc
  rintro ⟨i, h⟩ ⟨hi, oc⟩
  dsimp only at hi oc ⊢
  refine .seq (.seq ((.region (.v (.move rfl) (.v (.move rfl) (.v (.nilCheck rfl) (.v (.fieldAddr rfl) (.v (.load (v := .slice Ac cs.length kc) rfl (.one rfl)) (.v (.len rfl) (.v (.lss rfl rfl) (.nil ?_)))))))))))
  refine .cond_dec rfl (fun h1 => .skip ?_) (fun h1 => .exit ?_)
  · have hil : i < cs.length := by omega
    have hil2 : i < (closeTo r m cs i).length := by rw [closeTo_len]; exact hil
    obtain ⟨bc, oc_, lc, rfl, -, rfl, hcap, hlc, -⟩ := OwnS.some_ oc (by omega)
    have hg := closeTo_get r m cs hil
    have hA0 := fun hs' hsub => OwnS.at0 (w0 := w) (own := bl (DZ.H b wn ⟨vL, hL, vO, hO, vA, hA, .slice (some ⟨bc, oc_, none⟩) cs.length kc, hC⟩)) (hs := hs') oc hsub
    have q5 := fun hs' hsub => fldAt Cs.cells 6 (fun _ => rfl) (z := (i : Int)) (hA0 hs' hsub) hil2 5 (v := .bool cs[i].op) (by rw [hg]; rfl)
    have q0 := fun hs' hsub => fldAt Cs.cells 6 (fun _ => rfl) (z := (i : Int)) (hA0 hs' hsub) hil2 0 (v := .int .i64 cs[i].r) (by rw [hg]; rfl)
    have q1 := fun hs' hsub => fldAt Cs.cells 6 (fun _ => rfl) (z := (i : Int)) (hA0 hs' hsub) hil2 1 (v := .int .u32 cs[i].m) (by rw [hg]; rfl)
    have o2 := OwnS.setF Cs.cells (fun _ => rfl) oc 5 hil2 (by omega) (a' := { cs[i] with op := false }) (v := .bool false) (by rw [hg]; rfl)
    have hsucc := closeTo_succ r m cs hil
    have hcn := cntC_succ r m cs hil
    have hcle := cntC_le r m (cs.take i)
    rw [List.length_take] at hcle
    rw [closeTo_len] at hcap
    clear hg hA0
    generalize cs[i] = c at q0 q1 q5 o2 hsucc hcn
    generalize cntC r m (cs.take i) = k at hcn hcle ⊢
    refine .mid (X := CLS) (fun x => [(0, .pointer (some ⟨b, 0, none⟩)), (1, .int .i64 r), (2, .int .u32 m), (8, .int .i64 x.i), (9, .int .i64 i)]) (fun x => DZ.H b wn ⟨vL, hL, vO, hO, vA, hA, .slice (some ⟨bc, oc_, none⟩) cs.length kc, x.h⟩) (fun x => x.i = cntC r m (cs.take (i + 1)) ∧ CsOwn (.slice (some ⟨bc, oc_, none⟩) cs.length kc) (closeTo r m cs (i + 1)) x.h) ?_ ?_
    · refine .keep (Db b wn vL vO vA (.slice (some ⟨bc, oc_, none⟩) cs.length kc) :: (bc, Ch.cells lc 48) :: (hL ++ (hO ++ hA))) ?_
      refine (.block (.seq ((.region (.v (.move rfl) (.v (.nilCheck rfl) (.v (.fieldAddr rfl) (.v (.load (v := .slice (some ⟨bc, oc_, none⟩) cs.length kc) rfl (.one rfl)) (.v (.move rfl) (.v (.indexAddr rfl rfl (by omega) (by omega)) (.v (.fieldAddr rfl) (.v (.load (v := .bool c.op) rfl (q5 _ (fun y hy => by simp at hy; subst hy; simp))) (.v (.move rfl) (.and (b2 := decide (c.r = r)) 27 37 10 10 rfl rfl (fun g1 => .v (.move rfl) (.v (.nilCheck rfl) (.v (.fieldAddr rfl) (.v (.load (v := .slice (some ⟨bc, oc_, none⟩) cs.length kc) rfl (.one rfl)) (.v (.move rfl) (.v (.indexAddr rfl rfl (by omega) (by omega)) (.v (.fieldAddr rfl) (.v (.load (v := .int .i64 c.r) rfl (q0 _ (fun y hy => by simp at hy; subst hy; simp))) (.v (.move rfl) (.v (.eqi rfl rfl) (.nil ⟨rfl, rfl, rfl, rfl⟩))))))))))) (.v (.move rfl) (.and (b2 := decide (c.m = m)) 39 49 10 10 rfl rfl (fun g2 => .v (.move rfl) (.v (.nilCheck rfl) (.v (.fieldAddr rfl) (.v (.load (v := .slice (some ⟨bc, oc_, none⟩) cs.length kc) rfl (.one rfl)) (.v (.move rfl) (.v (.indexAddr rfl rfl (by omega) (by omega)) (.v (.fieldAddr rfl) (.v (.load (v := .int .u32 c.m) rfl (q1 _ (fun y hy => by simp at hy; subst hy; simp))) (.v (.move rfl) (.v (.eqi rfl rfl) (.nil ⟨rfl, rfl, rfl, rfl⟩))))))))))) (.nil ?_)))))))))))))))))
      have hcls : cls r m c = ((c.op && decide (c.r = r)) && decide (c.m = m)) := by
        unfold cls; cases c.op <;> cases decide (c.r = r) <;> cases decide (c.m = m) <;> rfl
      refine .cond rfl (fun h2 => ?_) (fun h2 => .skip ?_)
      · have h2' : cls r m c = true := by rw [hcls]; exact h2
        rw [if_pos h2'] at hsucc hcn
        refine .seq ((.region (.v (.move rfl) (.v (.nilCheck rfl) (.v (.fieldAddr rfl) (.v (.load (v := .slice (some ⟨bc, oc_, none⟩) cs.length kc) rfl (.one rfl)) (.v (.move rfl) (.v (.indexAddr rfl rfl (by omega) (by omega)) (.v (.fieldAddr rfl) (.st (.store (b := bc) (l := lc) rfl rfl rfl (by omega)) (.nil ?_)))))))))))
        rw [Int.toNat_natCast]
        refine .region (.v (.move rfl) (.v (.addE ((k + 1 : Nat) : Int) rfl rfl (by omega) (by omega)) (.v (.assign rfl) (.nil ?_))))
        rw [← hsucc] at o2
        generalize lc.set (oc_ + i * 6 + 5) (.bool false) = lc' at o2 ⊢
        exact ⟨⟨k + 1, [(bc, .cells lc' 48)]⟩, ⟨hcn.symm, o2⟩, .cons rfl (.cons rfl (.cons rfl (.cons rfl (.cons rfl (.nil _))))), fun _ s => s.take⟩
      · have h2' : ¬ cls r m c = true := by rw [hcls, h2]; simp
        rw [if_neg h2'] at hsucc hcn
        exact ⟨⟨k, [(bc, .cells lc 48)]⟩, ⟨hcn.symm, by rw [hsucc]; exact oc⟩, .cons rfl (.cons rfl (.cons rfl (.cons rfl (.cons rfl (.nil _))))), fun _ s => s.take⟩
    · rintro ⟨k', h'⟩ ⟨hk, o'⟩
      dsimp only at hk o' ⊢
      subst hk
      refine .region (.v (.move rfl) (.v (.addi rfl rfl (by omega)) (.v (.assign rfl) (.nil ?_))))
      exact ⟨⟨i + 1, h'⟩, ⟨hil, o'⟩, by show cs.length - (i + 1) < cs.length - i; omega, .cons rfl (.cons rfl (.cons rfl (.cons rfl (.cons rfl (.nil _))))), fun _ s => s⟩
  · have hiL : i = cs.length := by omega
    subst hiL
    rw [List.take_length]
    rw [closeTo_all] at oc
    have hw2 := hcl h oc
    unfold clsV
    refine .seq (.seq ((.region (.v (.move rfl) (.v (.eqi rfl rfl) (.nil ?_))))))
    refine .cond_dec rfl (fun h3 => ?_) (fun h3 => .skip ?_)
    · rw [if_pos (by omega)]
      refine .seq ((.region (.v (.assign rfl) (.v (.assign rfl) (.nil ?_)))))
      exact .ret ⟨[_, _], ⟨rfl, rfl, trivial⟩, DZ.H b wn ⟨vL, hL, vO, hO, vA, hA, .slice Ac cs.length kc, h⟩, fun _ s => s, rfl, _, rfl, hw2⟩
    · rw [if_neg (by omega)]
      refine .seq ((.region (.v (.move rfl) (.v (.assign rfl) (.v (.assign rfl) (.nil ?_))))))
      exact .ret ⟨[_, _], ⟨rfl, rfl, trivial⟩, DZ.H b wn ⟨vL, hL, vO, hO, vA, hA, .slice Ac cs.length kc, h⟩, fun _ s => s, rfl, _, rfl, hw2⟩
/-! ### New, members compared -/
theorem not_dec {p : Prop} [Decidable p] (h : (!decide p) = true) : ¬ p := by rw [Bool.not_eq_true'] at h; exact of_decide_eq_false h
theorem not_dec' {p : Prop} [Decidable p] (h : (!decide p) = false) : p := by rw [Bool.not_eq_false'] at h; exact of_decide_eq_true h
theorem DNew_ok (w : World) (wn : Wn) : Does Try.prog 17 [.agg ⟨wn.cells⟩] [] w (fun v hs => (wn.Can ∧ ∃ b z, v = .tuple ⟨[.pointer (some ⟨b, 0, none⟩), .int .i64 0]⟩ ∧ hs = DZ.H b wn z ∧ DI DW.new z) ∨ (¬ wn.Can ∧ v = .tuple ⟨[.pointer none, .int .i64 1]⟩ ∧ hs = [])) := by
  refine Does.less (Does.of (n := 10) Try.func17 rfl rfl rfl rfl ?_)
  refine .seq ((.region (.nw (.box (l := wn.cells) rfl rfl) fun b1 => (.v (.assign rfl) (.v (.assign rfl) (.nil ?_))))))
  refine .seq (.seq ((.region (.v (.loadA (vs := wn.cells) rfl .whole rfl) (.pc (v := .bool (decide wn.Can)) rfl rfl (fun w s => Valid_ok w wn) (.v (.not rfl) (.nil ?_)))))))
  refine .cond rfl (fun h1 => ?_) (fun h1 => .skip ?_)
  · refine .seq ((.region (.v (.assign rfl) (.v (.assign rfl) (.nil ?_)))))
    exact .ret ⟨[_, _], ⟨rfl, rfl, trivial⟩, [], fun _ s => s.sub (List.nil_sublist _), .inr ⟨not_dec h1, rfl, rfl⟩⟩
  · refine .seq ((.region (.v (.loadA (vs := wn.cells) rfl .whole rfl) (.v (.build (out := dcells wn (.slice none 0 0) (.slice none 0 0) (.slice none 0 0) (.slice none 0 0)) rfl rfl) (.nw (.box (l := dcells wn (.slice none 0 0) (.slice none 0 0) (.slice none 0 0) (.slice none 0 0)) rfl rfl) fun b9 => (.v (.assign rfl) (.v (.assign rfl) (.nil ?_))))))))
    exact .ret ⟨[_, _], ⟨rfl, rfl, trivial⟩, DZ.H b9 wn ⟨.slice none 0 0, [], .slice none 0 0, [], .slice none 0 0, [], .slice none 0 0, []⟩, fun _ s => s.take, .inl ⟨not_dec' h1, b9, ⟨.slice none 0 0, [], .slice none 0 0, [], .slice none 0 0, [], .slice none 0 0, []⟩, rfl, rfl, OwnS.nil _ _, OwnS.nil _ _, OwnS.nil _ _, OwnS.nil _ _⟩⟩
theorem membs_ok (w : World) (A B : Option Addr) (len ca cb : Nat) (l : List Int) (hA : Rd w [] A (ints .u32 l)) (hB : Rd w [] B (ints .u32 l)) (hl : len = l.length) (hb : len ≤ 3518437208883) :
    Is Try.prog 40 [.slice A len ca, .slice B len cb] w (.bool true) := by
  refine Does.pure (Does.of (n := 26) Try.func40 rfl rfl rfl rfl ?_)
  refine .seq ((.region (.v (.assign rfl) (.nil ?_))))
  refine .seq (.seq ((.region (.v (.move rfl) (.v (.len rfl) (.v (.move rfl) (.v (.len rfl) (.v (.nei rfl rfl) (.nil ?_)))))))))
  refine .cond_dec rfl (fun g => absurd rfl g) (fun g => .skip ?_)
  refine .seq (.seq ((.region (.v (.assign rfl) (.nil ?_)))))
  refine .block (.loop (X := Nat) (fun i => [(0, .slice A len ca), (1, .slice B len cb), (5, .int .i64 (i : Nat))]) (fun _ => []) (fun i => i ≤ len) (fun i => len - i) 0 (by omega) (.cons rfl (.cons rfl (.cons rfl (.nil _)))) (fun _ s => s) ?_)
  intro i hi
  refine .seq (.seq ((.region (.v (.move rfl) (.v (.move rfl) (.v (.len rfl) (.v (.lss rfl rfl) (.nil ?_))))))))
  refine .cond_dec rfl (fun g2 => .skip ?_) (fun g2 => .exit ?_)
  · have hil : i < l.length := by omega
    obtain ⟨b, o, rfl, -⟩ := hA.base (by rw [ints_len]; omega)
    obtain ⟨b', o', rfl, -⟩ := hB.base (by rw [ints_len]; omega)
    refine .seq (.block (.seq ((.drawK [] (fun _ h => h) (by kernel_rfl) (by kernel_rfl) ?_))))
    refine .v (fun _ f => .move rfl) (.v (fun _ f => .move rfl) (.v (fun _ f => .indexN i rfl rfl (by omega)) (.v (fun _ f => .load (v := .int .u32 l[i]) rfl (Rd.cell hA (ints_at hil))) (.v (fun _ f => .move rfl) (.v (fun _ f => .move rfl) (.v (fun _ f => .indexN i rfl rfl (by omega)) (.v (fun _ f => .load (v := .int .u32 l[i]) rfl (Rd.cell hB (ints_at hil))) (.v (fun _ f => .nei rfl rfl) (.nil ?_)))))))))
    refine .cond_dec rfl (fun g3 => absurd rfl g3) (fun _ => .skip ?_)
    refine .region (.v (.move rfl) (.v (.addi rfl rfl (by omega)) (.v (.assign rfl) (.nil ?_))))
    exact ⟨i + 1, by omega, by omega, .cons rfl (.cons rfl (.cons rfl (.nil _))), fun _ s => s⟩
  · refine .seq ((.region (.v (.assign rfl) (.nil ?_))))
    exact .ret ⟨[_], ⟨rfl, trivial⟩, rfl⟩
end Go.Proofs.Ytcbppikkoelimaa

/- Surveil: alert of the document. -/
namespace Go.Proofs.Ytcbppikkoelimaa
open Go.V
set_option linter.unusedVariables false
set_option linter.unusedSimpArgs false
set_option maxRecDepth 20000

theorem clast_none {r m : Int} {l : List Cs} (h : ∀ j, (hj : j < l.length) → ¬ (l[j].r = r ∧ l[j].m = m)) : clast r m l = -1 := by
  rcases clast_spec r m l with ⟨h1, _⟩ | ⟨i, h1, hi, h2, _⟩
  · exact h1
  · exact absurd h2 (h i hi)
theorem clast_hit {r m : Int} {l : List Cs} {i : Nat} (hi : i < l.length) (h0 : l[i].r = r ∧ l[i].m = m) (h : ∀ j, (hj : j < l.length) → i < j → ¬ (l[j].r = r ∧ l[j].m = m)) : clast r m l = i := by
  rcases clast_spec r m l with ⟨h1, h2⟩ | ⟨j, h1, hj, h2, h3⟩
  · exact absurd h0 (h2 _ (List.getElem_mem hi))
  · rw [h1]
    rcases Nat.lt_trichotomy i j with hlt | rfl | hlt
    · exact absurd h2 (h j hj hlt)
    · rfl
    · exact absurd h0 (h3 i hi hlt)
structure DW.Ok (D : DW) : Prop where
  l : D.L.length ≤ 1000000000
  o : D.O.length ≤ 1000000000
  a : D.al.length ≤ 8000000000
  k : D.cs.length ≤ 8000000000
  c : ∀ c ∈ D.cs, (0 ≤ c.l ∧ c.l ≤ D.L.length) ∧ (0 ≤ c.n ∧ c.n ≤ 10000000000)
theorem at_succ {β : Type} {l : List β} {k : Nat} (h : k + 1 ≤ l.length) : k < l.length := h
structure DAS where
  vC : Value
  hC : Hp
set_option maxHeartbeats 4000000 in
theorem dalert_ok (w : World) (b : Nat) (wn : Wn) (hw : wn.Can) (D : DW) (z : DZ) (hI : DI D z) (hB : D.Ok) (r m o n : Int) :
    Does Try.prog 60 [.pointer (some ⟨b, 0, none⟩), .int .i64 r, .int .u32 m, .int .u64 o, .int .i64 n] (z.H b wn) w (fun _ hs => ∃ z', hs = z'.H b wn ∧ DI (D.alert wn r m o n) z') := by
  obtain ⟨vL, hL, vO, hO, vA, hA, vC, hC⟩ := z
  obtain ⟨oL, oO, oA, oc⟩ := hI
  obtain ⟨bL, bO, bA, bC, bc⟩ := hB
  have hsp := hw.1
  dsimp only at oL oO oA oc ⊢
  obtain ⟨AL, cL, rfl⟩ := OwnS.slice oL
  obtain ⟨AA, cA, rfl⟩ := OwnS.slice oA
  obtain ⟨AC, cC, rfl⟩ := OwnS.slice oc
  refine Does.less (Does.of (n := 111) Try.func60 rfl rfl rfl rfl ?_)
  refine .seq (.seq ((.region (.v (.move rfl) (.v (.eqi rfl rfl) (.nil ?_))))))
  unfold DW.alert
  refine .cond_dec rfl (fun h1 => ?_) (fun h1 => .skip ?_)
  · rw [if_pos h1]
    exact .ret ⟨[], trivial, DZ.H b wn ⟨.slice AL D.L.length cL, hL, vO, hO, .slice AA D.al.length cA, hA, .slice AC D.cs.length cC, hC⟩, fun _ s => s, ⟨.slice AL D.L.length cL, hL, vO, hO, .slice AA D.al.length cA, hA, .slice AC D.cs.length cC, hC⟩, rfl, oL, oO, oA, oc⟩
  rw [if_neg h1]
  refine .seq ((.region (.v (.move rfl) (.v (.nilCheck rfl) (.v (.fieldAddr rfl) (.v (.load (v := .slice AL D.L.length cL) rfl (.one rfl)) (.v (.len rfl) (.v (.convE (D.L.length : Int) rfl (wrap_u64_in (by omega))) (.v (.assign rfl) (.nil ?_))))))))))
  refine .seq ((.region (.v (.move rfl) (.v (.move rfl) (.v (.nilCheck rfl) (.v (.fieldAddr rfl) (.v (.load (v := .slice AA D.al.length cA) rfl (.one rfl)) (.v (.move rfl) (.v (.move rfl) (.v (.move rfl) (.v (.move rfl) (.v (.move rfl) (.v (.build (out := (⟨r, m, D.L.length, o, n⟩ : Al).cells) rfl rfl) (.push (h := hA) (vs := alrows D.al) (c := D.al.length) (oc := (⟨r, m, D.L.length, o, n⟩ : Al).cells) rfl rfl oA rfl rfl rfl (by omega) (by omega) ?_))))))))))))))
  intro bq vA' hA' oA'
  obtain ⟨AA', cA', rfl⟩ := OwnS.slice oA'
  refine .v (.nilCheck rfl) (.v (.fieldAddr rfl) (.st (.storeL (l' := dcells wn (.slice AL D.L.length cL) vO (.slice AA' (D.al.length + 1) cA') (.slice AC D.cs.length cC)) rfl rfl rfl) (.nil ?_)))
  have oA2 : AlOwn (.slice AA' (D.al.length + 1) cA') (D.al ++ [⟨r, m, D.L.length, o, n⟩]) hA' := by
    show OwnS _ 5 _ (D.al ++ [_]).length (alrows (D.al ++ [_])) _
    rw [List.length_append, alrows_app]; exact oA'
  clear oA' oA
  have fin : ∀ vC' hC', CsOwn vC' (cput wn.span D.L.length r m D.cs) hC' → DI { D with al := D.al ++ [⟨r, m, D.L.length, o, n⟩], cs := cput wn.span D.L.length r m D.cs } ⟨.slice AL D.L.length cL, hL, vO, hO, .slice AA' (D.al.length + 1) cA', hA', vC', hC'⟩ := fun vC' hC' h => ⟨oL, oO, oA2, h⟩
  generalize (.slice AL D.L.length cL : Value) = vL at fin oL ⊢
  generalize (.slice AA' (D.al.length + 1) cA' : Value) = vA at fin oA2 ⊢
  refine .keep (DZ.H b wn ⟨vL, hL, vO, hO, vA, hA', .slice AC D.cs.length cC, hC⟩) ?_
  generalize hcs : D.cs = cs at fin oc bC bc ⊢
  generalize hAt : (D.L.length : Int) = at_ at fin bc ⊢
  have hat0 : 0 ≤ at_ ∧ at_ ≤ 1000000000 := by omega
  clear oL oO oA2 bL bO bA
  refine .mid (X := Unit) (fun _ => [(0, .pointer (some ⟨b, 0, none⟩)), (1, .int .i64 r), (2, .int .u32 m), (10, .int .u64 at_)]) (fun _ => DZ.H b wn ⟨vL, hL, vO, hO, vA, hA', .slice AC cs.length cC, hC⟩) (fun _ => cput wn.span at_ r m cs = cs ++ [⟨r, m, at_, at_, 1, true⟩]) (.seq ((.region (.v (.move rfl) (.v (.nilCheck rfl) (.v (.fieldAddr rfl) (.v (.load (v := .slice AC cs.length cC) rfl (.one rfl)) (.v (.len rfl) (.v (.subi rfl rfl (by omega)) (.v (.assign rfl) (.nil ?_))))))))))) ?_
  · refine .block (.loop (X := Nat) (fun k => [(0, .pointer (some ⟨b, 0, none⟩)), (1, .int .i64 r), (2, .int .u32 m), (10, .int .u64 at_), (11, .int .i64 ((k : Int) - 1))]) (fun _ => DZ.H b wn ⟨vL, hL, vO, hO, vA, hA', .slice AC cs.length cC, hC⟩) (fun k => k ≤ cs.length ∧ ∀ j, (hj : j < cs.length) → k ≤ j → ¬ (cs[j].r = r ∧ cs[j].m = m)) (fun k => k) cs.length ⟨Nat.le_refl _, fun j hj h => absurd hj (by omega)⟩ (.cons rfl (.cons rfl (.cons rfl (.cons rfl (.cons rfl (.nil _)))))) (fun _ s => s) ?_)
    rintro k ⟨hk, hkf⟩
    refine .seq (.seq ((.region (.v (.move rfl) (.v (.geq rfl rfl) (.nil ?_))))))
    refine .cond_dec rfl (fun h2 => .skip ?_) (fun h2 => .exit ?_)
    case refine_2 =>
      have hk0 : k = 0 := by omega
      subst hk0
      exact ⟨(), cput_new (clast_none fun j hj => hkf j hj (Nat.zero_le _)), .cons rfl (.cons rfl (.cons rfl (.cons rfl (.nil _)))), fun _ s => s⟩
    obtain ⟨i, rfl⟩ : ∃ i, k = i + 1 := ⟨k - 1, by omega⟩
    rw [show (((i + 1 : Nat) : Int) - 1) = (i : Int) by omega]
    have hil : i < cs.length := hk
    obtain ⟨bC', oC', lC, rfl, -, rfl, hcap, hlC, -⟩ := OwnS.some_ oc (by omega)
    have hA0 := fun hs' hsub => recAt Cs.cells 6 (fun _ => rfl) (z := (i : Int)) (OwnS.at0 (w0 := w) (own := bl (DZ.H b wn ⟨.slice AL D.L.length cL, hL, vO, hO, .slice AA D.al.length cA, hA, .slice (some ⟨bC', oC', none⟩) D.cs.length cC, [(bC', Ch.cells lC 48)]⟩)) (hs := hs') oc hsub) hil
    have hbc := bc _ (List.getElem_mem hil)
    have hhit : cs[i].r = r ∧ cs[i].m = m → clast r m cs = i := fun h => clast_hit hil h fun j hj hij => hkf j hj hij
    have hput : cs[i].r = r ∧ cs[i].m = m → cput wn.span at_ r m cs = if cs[i].op = true ∧ at_ - cs[i].l ≤ wn.span then cs.set i { cs[i] with l := at_, n := cs[i].n + 1 } else cs ++ [⟨r, m, at_, at_, 1, true⟩] := fun h => cput_old (hhit h) hil
    have o2 := OwnS.setF Cs.cells (fun _ => rfl) oc 3 hil (by omega) (a' := { cs[i] with l := at_ }) (v := .int .u64 at_) rfl
    have hfn := fun hs' hsub => fldAt Cs.cells 6 (fun _ => rfl) (z := (i : Int)) (OwnS.at0 (w0 := w) (own := bl (DZ.H b wn ⟨.slice AL D.L.length cL, hL, vO, hO, .slice AA D.al.length cA, hA, .slice (some ⟨bC', oC', none⟩) D.cs.length cC, [(bC', Ch.cells lC 48)]⟩)) (hs := hs') o2 hsub) (by rw [List.length_set]; exact hil) 4 (v := .int .i64 cs[i].n) (by rw [List.getElem_set_self]; rfl)
    have o3 := OwnS.setF Cs.cells (fun _ => rfl) o2 4 (by rw [List.length_set]; exact hil) (by omega) (a' := { cs[i] with l := at_, n := cs[i].n + 1 }) (v := .int .i64 (cs[i].n + 1)) (by rw [List.getElem_set_self]; rfl)
    rw [List.set_set] at o3
    rw [List.length_set] at o2
    have hmiss : ¬ (cs[i].r = r ∧ cs[i].m = m) → ∀ j, (hj : j < cs.length) → i ≤ j → ¬ (cs[j].r = r ∧ cs[j].m = m) := fun h j hj hij => by
      rcases Nat.eq_or_lt_of_le hij with rfl | hlt
      · exact h
      · exact hkf j hj hlt
    generalize cs[i] = c at hA0 hbc hput o3 hfn hmiss
    refine .keep (Db b wn vL vO vA (.slice (some ⟨bC', oC', none⟩) cs.length cC) :: (bC', Ch.cells lC 48) :: (hL ++ (hO ++ hA'))) ?_
    refine .seq (.block (.seq ((.region (.v (.move rfl) (.v (.nilCheck rfl) (.v (.fieldAddr rfl) (.v (.load (v := .slice (some ⟨bC', oC', none⟩) cs.length cC) rfl (.one rfl)) (.v (.move rfl) (.v (.indexAddr rfl rfl (by omega) (by omega)) (.v (.loadA (vs := c.cells) rfl (hA0 _ (fun y hy => by simp at hy; subst hy; simp)) rfl) (.nw .alloc fun b12 => (.st (.sw rfl rfl) (.nil ?_))))))))))))))
    refine .keep ((b12, .cells c.cells 48) :: Db b wn vL vO vA (.slice (some ⟨bC', oC', none⟩) cs.length cC) :: (bC', Ch.cells lC 48) :: (hL ++ (hO ++ hA'))) ?_
    refine .seq (.seq ((.region (.v (.fieldAddr rfl) (.v (.load (v := .int .i64 c.r) rfl (.one rfl)) (.v (.move rfl) (.v (.nei rfl rfl) (.v (.move rfl) (.or (b2 := decide (c.m ≠ m)) 57 61 4 4 rfl rfl (fun g1 => .v (.fieldAddr rfl) (.v (.load (v := .int .u32 c.m) rfl (.one rfl)) (.v (.move rfl) (.v (.nei rfl rfl) (.nil ⟨rfl, rfl, rfl, rfl⟩))))) (.nil ?_))))))))))
    refine .cond rfl (fun h3 => .exit ?_) (fun h3 => .skip ?_)
    · have h3' : ¬ (c.r = r ∧ c.m = m) := by rintro ⟨a1, a2⟩; simp [a1, a2] at h3
      refine .region (.v (.move rfl) (.v (.subi rfl rfl (by omega)) (.v (.assign rfl) (.nil ?_))))
      exact ⟨i, ⟨by omega, hmiss h3'⟩, by omega, .cons rfl (.cons rfl (.cons rfl (.cons rfl (.cons rfl (.nil _))))), fun _ s => s.take⟩
    have h3' : c.r = r ∧ c.m = m := by simpa using h3
    have hput := hput h3'
    refine .seq (.seq ((.drawK [(b12, .cells c.cells 48), Db b wn vL vO vA (.slice (some ⟨bC', oC', none⟩) cs.length cC)] (by intro y hy; simp at hy ⊢; rcases hy with rfl | rfl <;> simp) (by kernel_rfl) (by kernel_rfl) ?_)))
    refine .v (fun _ f => .fieldAddr rfl) (.v (fun _ f => .load (v := .bool c.op) rfl (.one (hb := .sub f) rfl)) (.v (fun _ f => .move rfl) (.and (b2 := decide (at_ - c.l ≤ wn.span)) 65 76 11 11 rfl rfl (fun g2 => .v (fun _ f => .move rfl) (.v (fun _ f => .fieldAddr rfl) (.v (fun _ f => .load (v := .int .u64 c.l) rfl (.one (hb := .sub f) rfl)) (.v (fun _ f => .subU (at_ - c.l) rfl rfl rfl (by omega)) (.v (fun _ f => .move rfl) (.v (fun _ f => .nilCheck rfl) (.v (fun _ f => .fieldAddr rfl) (.v (fun _ f => .fieldAddr rfl) (.v (fun _ f => .load (v := .int .i64 wn.span) rfl (.one (hb := .sub f) rfl)) (.v (fun _ f => .convE wn.span rfl (wrap_u64_in (by omega))) (.v (fun _ f => .leq rfl rfl) (.nil ⟨rfl, rfl, rfl, rfl⟩)))))))))))) (.nil ?_))))
    refine .cond rfl (fun h4 => ?_) (fun h4 => .skip ?_)
    · rw [if_pos (by simpa using h4)] at hput
      rw [← hput] at o3
      have hpl : (cput wn.span at_ r m cs).length = cs.length := by rw [hput, List.length_set]
      rw [hpl] at o3
      refine .seq ((.region (.v (.move rfl) (.v (.nilCheck rfl) (.v (.fieldAddr rfl) (.v (.load (v := .slice (some ⟨bC', oC', none⟩) cs.length cC) rfl (.one rfl)) (.v (.move rfl) (.v (.move rfl) (.v (.indexAddr rfl rfl (by omega) (by omega)) (.v (.fieldAddr rfl) (.st (.store (b := bC') (l := lC) rfl rfl rfl (by omega)) (.nil ?_))))))))))))
      rw [Int.toNat_natCast]
      refine .seq ((.region (.v (.move rfl) (.v (.nilCheck rfl) (.v (.fieldAddr rfl) (.v (.load (v := .slice (some ⟨bC', oC', none⟩) cs.length cC) rfl (.one rfl)) (.v (.move rfl) (.v (.indexAddr rfl rfl (by omega) (by omega)) (.v (.fieldAddr rfl) (.v (.load (v := .int .i64 c.n) rfl (hfn _ (fun y hy => by simp at hy; subst hy; simp))) (.v (.addi rfl rfl (by omega)) (.v (.indexAddr rfl rfl (by omega) (by omega)) (.v (.fieldAddr rfl) (.st (.store (b := bC') (l := lC.set (oC' + i * 6 + 3) (.int .u64 at_)) rfl rfl rfl (by rw [List.length_set]; omega)) (.nil ?_)))))))))))))))
      rw [Int.toNat_natCast]
      generalize (lC.set (oC' + i * 6 + 3) (.int .u64 at_)).set (oC' + i * 6 + 4) (.int .i64 (c.n + 1)) = lC' at o3 ⊢
      refine .ret ⟨[], trivial, DZ.H b wn ⟨vL, hL, vO, hO, vA, hA', .slice (some ⟨bC', oC', none⟩) cs.length cC, [(bC', .cells lC' 48)]⟩, fun _ s => s.take, _, rfl, fin _ _ ?_⟩
      show OwnS _ 6 _ (cput wn.span at_ r m cs).length _ _
      rw [hpl]; exact o3
    · rw [if_neg (by rintro ⟨a1, a2⟩; simp [a1, a2] at h4)] at hput
      refine .exit ?_
      exact ⟨(), hput, .cons rfl (.cons rfl (.cons rfl (.cons rfl (.nil _)))), fun _ s => s.take⟩
  · rintro _ hput
    refine (.region (.v (.move rfl) (.v (.move rfl) (.v (.nilCheck rfl) (.v (.fieldAddr rfl) (.v (.load (v := .slice AC cs.length cC) rfl (.one rfl)) (.v (.move rfl) (.v (.move rfl) (.v (.move rfl) (.v (.move rfl) (.v (.build (out := (⟨r, m, at_, at_, 1, true⟩ : Cs).cells) rfl rfl) (.push (h := hC) (vs := csrows cs) (c := cs.length) (oc := (⟨r, m, at_, at_, 1, true⟩ : Cs).cells) rfl rfl oc rfl rfl rfl (by omega) (by omega) ?_))))))))))))
    intro bq vC' hC' oC'
    obtain ⟨AC', cC', rfl⟩ := OwnS.slice oC'
    refine .v (.nilCheck rfl) (.v (.fieldAddr rfl) (.st (.storeL (l' := dcells wn vL vO vA (.slice AC' (cs.length + 1) cC')) rfl rfl rfl) (.nil ?_)))
    refine ⟨[], trivial, DZ.H b wn ⟨vL, hL, vO, hO, vA, hA', .slice AC' (cs.length + 1) cC', hC'⟩, fun _ s => s.take, _, rfl, fin _ _ ?_⟩
    rw [hput]
    show OwnS _ 6 _ (cs ++ [_]).length (csrows (cs ++ [_])) _
    rw [List.length_append, csrows_app]; exact oC'
end Go.Proofs.Ytcbppikkoelimaa

/- Surveil: acked of the document; sizes. -/
namespace Go.Proofs.Ytcbppikkoelimaa
open Go.V
set_option linter.unusedVariables false
set_option linter.unusedSimpArgs false
set_option maxRecDepth 20000

structure DW.OkN (k : Nat) (D : DW) : Prop where
  l : D.L.length ≤ 700000000 + k
  o : D.O.length ≤ 700000000 + k
  a : D.al.length ≤ 7000000000 + k
  ck : D.cs.length ≤ 7000000000 + k
  c : ∀ c ∈ D.cs, (0 ≤ c.l ∧ c.l ≤ D.L.length) ∧ (0 ≤ c.n ∧ c.n ≤ 9000000000 + k)
theorem DW.OkN.ok {k : Nat} {D : DW} (h : D.OkN k) (hk : k ≤ 100) : D.Ok :=
  ⟨by have := h.l; omega, by have := h.o; omega, by have := h.a; omega, by have := h.ck; omega, fun c hc => by have := h.c c hc; omega⟩
theorem dset_len (O : List DO) (o : DO) : (dset O o).length ≤ O.length + 1 := by
  unfold dset; split
  · rw [List.length_set]; omega
  · simp
theorem dtr_len (O : List DO) (id : Int) : (dtr O id).length = O.length := by
  unfold dtr; split
  · split
    · rw [List.length_set]
    · rfl
  · rfl
theorem cput_mem {span at_ r m : Int} {l : List Cs} {c : Cs} (h : c ∈ cput span at_ r m l) : c ∈ l ∨ c = ⟨r, m, at_, at_, 1, true⟩ ∨ ∃ c0 ∈ l, c = { c0 with l := at_, n := c0.n + 1 } := by
  have happ : c ∈ l ++ [⟨r, m, at_, at_, 1, true⟩] → c ∈ l ∨ c = ⟨r, m, at_, at_, 1, true⟩ ∨ ∃ c0 ∈ l, c = { c0 with l := at_, n := c0.n + 1 } := fun h => by
    rcases List.mem_append.1 h with h | h
    · exact .inl h
    · exact .inr (.inl (by simpa using h))
  rcases clast_spec r m l with ⟨h1, _⟩ | ⟨i, h1, hi, _, _⟩
  · rw [cput_new h1] at h; exact happ h
  · rw [cput_old h1 hi] at h
    split at h
    · rcases List.mem_or_eq_of_mem_set h with h | h
      · exact .inl h
      · exact .inr (.inr ⟨l[i], List.getElem_mem hi, h⟩)
    · exact happ h
theorem cput_len (span at_ r m : Int) (l : List Cs) : (cput span at_ r m l).length ≤ l.length + 1 := by
  rcases clast_spec r m l with ⟨h1, _⟩ | ⟨i, h1, hi, _, _⟩
  · rw [cput_new h1]; simp
  · rw [cput_old h1 hi]; split
    · rw [List.length_set]; omega
    · simp
theorem DW.OkN.alert {k : Nat} {D : DW} (h : D.OkN k) (w : Wn) (r m o n : Int) : (D.alert w r m o n).OkN (k + 1) := by
  unfold DW.alert
  split
  · exact ⟨by have := h.l; omega, by have := h.o; omega, by have := h.a; omega, by have := h.ck; omega, fun c hc => by have := h.c c hc; omega⟩
  · refine ⟨by have := h.l; dsimp only; omega, by have := h.o; dsimp only; omega, by have := h.a; simp only [List.length_append, List.length_singleton]; omega, ?_, fun c hc => ?_⟩
    · have := cput_len w.span D.L.length r m D.cs
      have := h.ck
      dsimp only; omega
    · dsimp only at hc ⊢
      rcases cput_mem hc with hc | rfl | ⟨c0, hc0, rfl⟩
      · have := h.c c hc; omega
      · dsimp only; omega
      · have := h.c c0 hc0; dsimp only; omega
theorem DW.OkN.push {k : Nat} {D : DW} (h : D.OkN k) (x : DSn) {O : List DO} (hO : O.length ≤ D.O.length + 1) : ({ D with O := O, L := D.L ++ [x] } : DW).OkN (k + 1) := by
  refine ⟨by have := h.l; simp only [List.length_append, List.length_singleton]; omega, by have := h.o; dsimp only; omega, by have := h.a; dsimp only; omega, by have := h.ck; dsimp only; omega, fun c hc => ?_⟩
  have := h.c c hc
  simp only [List.length_append, List.length_singleton]; omega
theorem DW.OkN.mono {k k' : Nat} {D : DW} (h : D.OkN k) (hk : k ≤ k') : D.OkN k' :=
  ⟨by have := h.l; omega, by have := h.o; omega, by have := h.a; omega, by have := h.ck; omega, fun c hc => by have := h.c c hc; omega⟩
theorem dsrows_app (a b : List DSn) : dsrows (a ++ b) = dsrows a ++ dsrows b := by simp [dsrows]
theorem dorows_app (a b : List DO) : dorows (a ++ b) = dorows a ++ dorows b := by simp [dorows]
theorem LOwn.snoc {A : Option Addr} {c : Nat} {h : Hp} {L : List DSn} {x : DSn} (k : OwnS 114 22 (.slice A (L.length + 1) c) (L.length + 1) (dsrows L ++ x.cells) h) : LOwn (.slice A (L ++ [x]).length c) (L ++ [x]) h := by
  have e1 : (L ++ [x]).length = L.length + 1 := by simp
  have e2 : dsrows (L ++ [x]) = dsrows L ++ x.cells := by simp [dsrows]
  unfold LOwn; rw [e1, e2]; exact k
theorem OOwn.snoc {A : Option Addr} {c : Nat} {h : Hp} {L : List DO} {x : DO} (k : OwnS 112 4 (.slice A (L.length + 1) c) (L.length + 1) (dorows L ++ x.cells) h) : OOwn (.slice A (L.length + 1) c) (L ++ [x]) h := by
  have e1 : (L ++ [x]).length = L.length + 1 := by simp
  have e2 : dorows (L ++ [x]) = dorows L ++ x.cells := by simp [dorows]
  unfold OOwn; rw [e1, e2]; exact k
structure DOS where
  v : Value
  h : Hp
abbrev Eb (b : Nat) (e : Ev) : Nat × Ch := (b, .cells e.cells 34)
set_option maxHeartbeats 1000000 in
theorem dacked_ok (w : World) (b : Nat) (wn : Wn) (hw : wn.Can) (D : DW) (z : DZ) (hI : DI D z) (hB : D.OkN 0) (e : Ev) :
    Does Try.prog 35 [.pointer (some ⟨b, 0, none⟩), .agg ⟨e.cells⟩] (z.H b wn) w (fun _ hs => ∃ z', hs = z'.H b wn ∧ DI (D.acked wn e) z') := by
  obtain ⟨vL, hL, vO, hO, vA, hA, vC, hC⟩ := z
  obtain ⟨oL, oO, oA, oc⟩ := hI
  have bL := hB.l
  have bO := hB.o
  have bA := hB.a
  dsimp only at oL oO oA oc ⊢
  obtain ⟨AL, cL, rfl⟩ := OwnS.slice oL
  obtain ⟨AO, cO, rfl⟩ := OwnS.slice oO
  obtain ⟨AA, cA, rfl⟩ := OwnS.slice oA
  refine Does.less (Does.of (n := 81) Try.func35 rfl rfl rfl rfl ?_)
  refine .seq ((.region (.nw (.box (l := e.cells) rfl rfl) fun b3 => (.nil ?_))))
  refine .seq ((.region (.v (.fieldAddr rfl) (.v (.load (v := .int .u64 e.id) rfl (.one rfl)) (.v (.fieldAddr rfl) (.v (.load (v := .int .u32 e.mb) rfl (.one rfl)) (.v (.fieldAddr rfl) (.v (.load (v := .int .i64 e.sd) rfl (.one rfl)) (.v (.build (out := (⟨e.id, e.mb, e.sd, false⟩ : DO).cells) rfl rfl) (.nw .alloc fun b4 => (.st (.sw rfl rfl) (.nil ?_))))))))))))
  refine .mid (X := DOS) (fun _ => [(0, .pointer (some ⟨b, 0, none⟩)), (3, .pointer (some ⟨b3, 0, none⟩))]) (fun x => Eb b3 e :: DZ.H b wn ⟨.slice AL D.L.length cL, hL, x.v, x.h, .slice AA D.al.length cA, hA, vC, hC⟩) (fun x => OOwn x.v (dset D.O ⟨e.id, e.mb, e.sd, false⟩) x.h) (.seq ((.region (.v (.move rfl) (.v (.fieldAddr rfl) (.v (.load (v := .int .u64 e.id) rfl (.one rfl)) (.pc (v := .int .i64 (fixI e.id D.O)) rfl rfl (fun w s => find_ok w b wn (.slice AL D.L.length cL) (.slice AA D.al.length cA) vC AO cO D.O e.id (Rd.blk (T := 110) (hb := ⟨by simp⟩) s) (OwnS.rd oO s (no := []) (fun y hy => by simp [hy]) (by simp)) (by omega)) (.v (.assign rfl) (.nil ?_))))))))) ?_
  · unfold dset
    rcases fixI_cases e.id D.O with ⟨h1, h2, h3⟩ | ⟨i, h1, h2, hi, h3, h4⟩
    · rw [h1, h2]
      refine .seq ((.region (.v (.move rfl) (.v (.geq rfl rfl) (.nil ?_)))))
      refine .cond_dec rfl (fun h1 => absurd h1 (by decide)) (fun h1 => ?_)
      refine (.drawQ 10 [0, 1, 2, 3, 4, 5, 6, 7, 8, 9, 10] [(b4, .cells (⟨e.id, e.mb, e.sd, false⟩ : DO).cells 112), Db b wn (.slice AL D.L.length cL) (.slice AO D.O.length cO) (.slice AA D.al.length cA) vC] (by intro y hy; simp at hy ⊢; rcases hy with rfl | rfl <;> simp) (by kernel_rfl) (by kernel_rfl) ?_)
      refine .v (fun _ f => .move rfl) (.v (fun _ f => .move rfl) (.v (fun _ f => .nilCheck rfl) (.v (fun _ f => .fieldAddr rfl) (.v (fun _ f => .load (v := .slice AO D.O.length cO) rfl (.one (hb := .sub f) rfl)) (.v (fun _ f => .loadA (vs := (⟨e.id, e.mb, e.sd, false⟩ : DO).cells) rfl (.whole (hb := .sub f)) rfl) ?_)))))
      refine .ef (.buildSlice (out := (⟨e.id, e.mb, e.sd, false⟩ : DO).cells) rfl (by decide) rfl rfl) (fun v hs' ⟨_, _, e⟩ f => by subst e; exact fun y hy => List.mem_cons_of_mem _ (f hy)) ?_
      rintro _ _ ⟨bn, rfl, rfl⟩
      refine .ef (.append (c := D.O.length) (k := 1) (vs := dorows D.O) (news := (⟨e.id, e.mb, e.sd, false⟩ : DO).cells) (h := hO) rfl rfl oO TakeI.out (fun w' s => Src.of_at s .whole rfl) rfl rfl (by omega) (by omega)) (fun v hs' ⟨_, _, e⟩ f => by subst e; intro y hy; simp at hy; rcases hy with rfl | rfl <;> simp) ?_
      rintro vO' _ ⟨hO', oO', rfl⟩
      obtain ⟨AO', cO', rfl⟩ := OwnS.slice oO'
      refine .v (fun _ f => .nilCheck rfl) (.v (fun _ f => .fieldAddr rfl) (.st (.storeL (l' := dcells wn (.slice AL D.L.length cL) (.slice AO' (D.O.length + 1) cO') (.slice AA D.al.length cA) vC) rfl rfl rfl) (.nil ?_)))
      exact ⟨⟨.slice AO' (D.O.length + 1) cO', hO'⟩, OOwn.snoc oO', .cons rfl (.cons rfl (.nil _)), fun _ s => s.take⟩
    · rw [h1, h2]
      dsimp only
      obtain ⟨bO', oO', lO, rfl, -, rfl, hcc, hlO, -⟩ := OwnS.some_ oO (by omega)
      have o2 := OwnS.setR DO.cells (fun _ => rfl) oO hi (⟨e.id, e.mb, e.sd, false⟩ : DO)
      refine .keep ((b4, .cells (⟨e.id, e.mb, e.sd, false⟩ : DO).cells 112) :: Db b wn (.slice AL D.L.length cL) (.slice (some ⟨bO', oO', none⟩) D.O.length cO) (.slice AA D.al.length cA) vC :: (bO', Ch.cells lO 112) :: Eb b3 e :: (hL ++ (hA ++ hC))) ?_
      refine .seq ((.region (.v (.move rfl) (.v (.geq rfl rfl) (.nil ?_)))))
      refine .cond_dec rfl (fun h1 => ?_) (fun h1 => absurd (by omega) h1)
      refine (.drawQ 7 [0, 1, 2, 3, 4, 5, 6, 7] [(b4, .cells (⟨e.id, e.mb, e.sd, false⟩ : DO).cells 112), Db b wn (.slice AL D.L.length cL) (.slice (some ⟨bO', oO', none⟩) D.O.length cO) (.slice AA D.al.length cA) vC] (by intro y hy; simp at hy ⊢; rcases hy with rfl | rfl <;> simp) (by kernel_rfl) (by kernel_rfl) ?_)
      refine .v (fun _ f => .move rfl) (.v (fun _ f => .nilCheck rfl) (.v (fun _ f => .fieldAddr rfl) (.v (fun _ f => .load (v := .slice (some ⟨bO', oO', none⟩) D.O.length cO) rfl (.one (hb := .sub f) rfl)) (.v (fun _ f => .move rfl) (.v (fun _ f => .loadA (vs := (⟨e.id, e.mb, e.sd, false⟩ : DO).cells) rfl (.whole (hb := .sub f)) rfl) (.v (fun _ f => .indexAddr rfl rfl (by omega) (by omega)) (.st (.storeA (b := bO') (l := lO) rfl rfl rfl rfl (by rw [Int.toNat_natCast]; show oO' + i * 4 + 4 ≤ lO.length; omega)) (.nil ?_))))))))
      rw [Int.toNat_natCast]
      generalize V.splice lO (oO' + i * 4) (⟨e.id, e.mb, e.sd, false⟩ : DO).cells = lO' at o2 ⊢
      refine ⟨⟨.slice (some ⟨bO', oO', none⟩) D.O.length cO, [(bO', .cells lO' 112)]⟩, ?_, .cons rfl (.cons rfl (.nil _)), fun _ s => s.take⟩
      rw [List.length_set] at o2
      show OwnS _ 4 _ (List.set _ _ _).length _ _
      rw [List.length_set]; exact o2
  · rintro ⟨vO', hO'⟩ oO'
    dsimp only at oO' ⊢
    refine .seq ((.drawQ 11 [0, 1, 2, 3, 4, 5, 6, 7, 8, 9, 10, 11] [Eb b3 e, Db b wn (.slice AL D.L.length cL) vO' (.slice AA D.al.length cA) vC] (by intro y hy; simp at hy ⊢; rcases hy with rfl | rfl <;> simp) (by kernel_rfl) (by kernel_rfl) ?_))
    refine .v (fun _ f => .move rfl) (.v (fun _ f => .move rfl) (.v (fun _ f => .nilCheck rfl) (.v (fun _ f => .fieldAddr rfl) (.v (fun _ f => .load (v := .slice AL D.L.length cL) rfl (.one (hb := .sub f) rfl)) (.v (fun _ f => .loadA (vs := e.cells) rfl (.whole (hb := .sub f)) rfl) (.v (fun _ f => .build (out := (⟨e, 0, 0, 0, 0, false, do0⟩ : DSn).cells) rfl rfl) ?_))))))
    refine .ef (.buildSlice (out := (⟨e, 0, 0, 0, 0, false, do0⟩ : DSn).cells) rfl (by decide) rfl rfl) (fun v hs' ⟨_, _, e⟩ f => by subst e; exact fun y hy => List.mem_cons_of_mem _ (f hy)) ?_
    rintro _ _ ⟨bn, rfl, rfl⟩
    refine .ef (.append (c := D.L.length) (k := 1) (vs := dsrows D.L) (news := (⟨e, 0, 0, 0, 0, false, do0⟩ : DSn).cells) (h := hL) rfl rfl oL TakeI.out (fun w' s => Src.of_at s .whole rfl) rfl rfl (by omega) (by omega)) (fun v hs' ⟨_, _, e⟩ f => by subst e; intro y hy; simp at hy; rcases hy with rfl | rfl <;> simp) ?_
    rintro vL' _ ⟨hL', oL', rfl⟩
    obtain ⟨AL', cL', rfl⟩ := OwnS.slice oL'
    refine .v (fun _ f => .nilCheck rfl) (.v (fun _ f => .fieldAddr rfl) (.st (.storeL (l' := dcells wn (.slice AL' (D.L.length + 1) cL') vO' (.slice AA D.al.length cA) vC) rfl rfl rfl) (.nil ?_)))
    have oL2 := LOwn.snoc oL'
    have hI2 : DI (D.ack0 e) ⟨.slice AL' (D.ack0 e).L.length cL', hL', vO', hO', .slice AA (D.ack0 e).al.length cA, hA, vC, hC⟩ := ⟨oL2, oO', oA, oc⟩
    have hB2 : (D.ack0 e).OkN 1 := hB.push _ (dset_len _ _)
    have eL : D.L.length + 1 = (D.ack0 e).L.length := by unfold DW.ack0; simp
    have eA : D.al.length = (D.ack0 e).al.length := rfl
    rw [eL, eA]
    clear oL2
    refine .keep (Eb b3 e :: DZ.H b wn ⟨.slice AL' (D.ack0 e).L.length cL', hL', vO', hO', .slice AA (D.ack0 e).al.length cA, hA, vC, hC⟩) ?_
    have hbd := lprof_bd e.mb (D.ack0 e).L
    have hbl := hB2.l
    unfold DW.acked
    generalize D.ack0 e = D1 at hI2 hB2 hbd hbl ⊢
    clear oL oO oA oc oL' oO' hB eL eA
    obtain ⟨oL, oO, oA, oc⟩ := hI2
    dsimp only at oL oO oA oc
    have hbp : (0 ≤ (D1.prof e.mb).o ∧ (D1.prof e.mb).o ≤ 800000000) ∧ (0 ≤ (D1.prof e.mb).t ∧ (D1.prof e.mb).t ≤ 1600000000) := by
      unfold DW.prof; split
      · exact ⟨⟨by decide, by decide⟩, by decide, by decide⟩
      · dsimp only; omega
    refine .seq ((.region (.v (.move rfl) (.v (.fieldAddr rfl) (.v (.load (v := .int .u32 e.mb) rfl (.one rfl)) (.pc (v := .agg ⟨(D1.prof e.mb).cells⟩) rfl rfl (fun w s => dprofile_ok w b wn vO' vC AL' AA cL' cA D1 e.mb (Rd.blk (T := 110) (hb := ⟨by simp⟩) s) (OwnS.rd oL s (no := []) (fun y hy => by simp [hy]) (by simp)) (OwnS.rd oA s (no := []) (fun y hy => by simp [hy]) (by simp)) (by omega) (by have := hB2.a; omega)) (.nw .alloc fun b6 => (.st (.sw rfl rfl) (.nil ?_)))))))))
    generalize D1.prof e.mb = p at hbp ⊢
    have hr := hw.2.2.1
    have hmul : 0 ≤ wn.rat * p.t ∧ wn.rat * p.t ≤ 1600000000000 := by
      refine ⟨Int.mul_nonneg (by omega) hbp.2.1, ?_⟩
      calc wn.rat * p.t ≤ 1000 * p.t := Int.mul_le_mul_of_nonneg_right hr.2 hbp.2.1
        _ ≤ 1600000000000 := by omega
    refine .keep (Pb b6 p :: Eb b3 e :: DZ.H b wn ⟨.slice AL' D1.L.length cL', hL', vO', hO', .slice AA D1.al.length cA, hA, vC, hC⟩) ?_
    refine .seq ((.drawK [Pb b6 p, Db b wn (.slice AL' D1.L.length cL') vO' (.slice AA D1.al.length cA) vC] (by intro y hy; simp at hy ⊢; rcases hy with rfl | rfl <;> simp) (by kernel_rfl) (by kernel_rfl) ?_))
    refine .v (fun _ f => .fieldAddr rfl) (.v (fun _ f => .load (v := .int .i64 p.o) rfl (.one (hb := .sub f) rfl)) (.v (fun _ f => .move rfl) (.v (fun _ f => .nilCheck rfl) (.v (fun _ f => .fieldAddr rfl) (.v (fun _ f => .fieldAddr rfl) (.v (fun _ f => .load (v := .int .i64 wn.lst) rfl (.one (hb := .sub f) rfl)) (.v (fun _ f => .geq rfl rfl) (.v (fun _ f => .move rfl) (.and (b2 := decide (wn.rat * p.t < p.o)) 60 71 11 11 rfl rfl (fun g1 => .v (fun _ f => .fieldAddr rfl) (.v (fun _ f => .load (v := .int .i64 p.o) rfl (.one (hb := .sub f) rfl)) (.v (fun _ f => .move rfl) (.v (fun _ f => .nilCheck rfl) (.v (fun _ f => .fieldAddr rfl) (.v (fun _ f => .fieldAddr rfl) (.v (fun _ f => .load (v := .int .i64 wn.rat) rfl (.one (hb := .sub f) rfl)) (.v (fun _ f => .fieldAddr rfl) (.v (fun _ f => .load (v := .int .i64 p.t) rfl (.one (hb := .sub f) rfl)) (.v (fun _ f => .muli rfl rfl (by omega)) (.v (fun _ f => .gtr rfl rfl) (.nil ⟨rfl, rfl, rfl, rfl⟩)))))))))))) (.nil ?_))))))))))
    refine .cond rfl (fun h2 => ?_) (fun h2 => .skip ?_)
    · rw [if_pos (by simpa using h2)]
      refine .region (.v (.move rfl) (.v (.fieldAddr rfl) (.v (.load (v := .int .u32 e.mb) rfl (.one rfl)) (.v (.fieldAddr rfl) (.v (.load (v := .int .u64 e.id) rfl (.one rfl)) (.v (.fieldAddr rfl) (.v (.load (v := .int .i64 p.o) rfl (.one rfl)) ?_)))))))
      refine .ef (.callT (DZ.H b wn ⟨.slice AL' D1.L.length cL', hL', vO', hO', .slice AA D1.al.length cA, hA, vC, hC⟩) rfl rfl fun w s => dalert_ok w b wn hw D1 ⟨.slice AL' D1.L.length cL', hL', vO', hO', .slice AA D1.al.length cA, hA, vC, hC⟩ ⟨oL, oO, oA, oc⟩ (hB2.ok (by omega)) 3 e.mb e.id p.o) ?_
      rintro _ _ ⟨_, ⟨z', rfl, hI'⟩, rfl⟩
      refine .nil ?_
      exact ⟨[], trivial, z'.H b wn, fun _ s => s.take, z', rfl, hI'⟩
    · rw [if_neg (by rintro ⟨a1, a2⟩; simp [a1, a2] at h2)]
      exact ⟨[], trivial, DZ.H b wn ⟨.slice AL' D1.L.length cL', hL', vO', hO', .slice AA D1.al.length cA, hA, vC, hC⟩, fun _ s => s.take, _, rfl, oL, oO, oA, oc⟩
end Go.Proofs.Ytcbppikkoelimaa

/- Surveil: trades of the document (printed by wip/gen/gen_ref7.py). -/
namespace Go
namespace V
section
variable {P : Program} {n : Nat} {w0 : World} {own : List Nat} {e : Env} {hs : Hp}
theorem Val.negE {T : Nat} {x : Operand} {i : Int} (r : Int) (hx : ev e x = some (.int .i64 i)) (hr : -i = r) (hb : -9223372036854775808 ≤ r ∧ r ≤ 9223372036854775807) : Val P n w0 own e hs (.unOp .neg T x) (.int .i64 r) := by
  have := Val.neg (P := P) (n := n) (w0 := w0) (own := own) (hs := hs) (T := T) hx
  rw [wrap_i64 (by omega), show 0 - i = r by omega] at this; exact this
end
end V
end Go
namespace Go.Proofs.Ytcbppikkoelimaa
open Go.V
set_option linter.unusedVariables false
set_option linter.unusedSimpArgs false
set_option maxRecDepth 20000

theorem memO_eq (D : DW) (id : Int) : memO id D.O = D.mem id := rfl
theorem find_hit {α : Type} {p : α → Bool} {l : List α} {i : Nat} (hi : i < l.length) (h : p l[i] = true) (hf : ∀ j, (hj : j < l.length) → j < i → p l[j] = false) : l.find? p = some l[i] := by
  rw [List.find?_eq_some_iff_getElem]
  exact ⟨h, i, hi, rfl, fun j hj => by simpa using hf j (by omega) hj⟩
theorem find_miss {α : Type} {p : α → Bool} {l : List α} (hf : ∀ j, (hj : j < l.length) → p l[j] = false) : l.find? p = none := by
  rw [List.find?_eq_none]
  intro x hx
  obtain ⟨j, hj, rfl⟩ := List.getElem_of_mem hx
  rw [hf j hj]; simp
theorem tick_rng (p : Int) : 0 ≤ tickOf p ∧ tickOf p ≤ 262144 := by unfold tickOf; split <;> omega
abbrev Xb (b : Nat) (x : DSn) : Nat × Ch := (b, .cells x.cells 114)
theorem DW.tr1_push {D : DW} (hB : D.OkN 0) (e : Ev) : (D.tr1 e).OkN 1 := hB.push _ (by rw [dtr_len, dtr_len]; omega)
set_option maxHeartbeats 2000000 in
theorem dtrades_ok (w : World) (b : Nat) (wn : Wn) (hw : wn.Can) (D : DW) (z : DZ) (hI : DI D z) (hB : D.OkN 0) (e : Ev) :
    Does Try.prog 36 [.pointer (some ⟨b, 0, none⟩), .agg ⟨e.cells⟩] (z.H b wn) w (fun _ hs => ∃ z', hs = z'.H b wn ∧ DI (D.traded wn e) z') := by
  obtain ⟨vL0, hL0, vO0, hO0, vA0, hA0, vC0, hC0⟩ := z
  obtain ⟨oL, oO, oA, oc⟩ := hI
  have bL := hB.l
  have bO := hB.o
  have bA := hB.a
  dsimp only at oL oO oA oc ⊢
  obtain ⟨AO, cO, rfl⟩ := OwnS.slice oO
  refine Does.less (Does.of (n := 104) Try.func36 rfl rfl rfl rfl ?_)
  refine .seq ((.region (.nw (.box (l := e.cells) rfl rfl) fun b3 => (.nil ?_))))
  have hF : [Eb b3 e] ⊆ Eb b3 e :: DZ.H b wn ⟨vL0, hL0, .slice AO D.O.length cO, hO0, vA0, hA0, vC0, hC0⟩ := by intro y hy; simp at hy ⊢; exact .inl hy
  refine .mid (X := Nat) (fun b4 => [(0, .pointer (some ⟨b, 0, none⟩)), (3, .pointer (some ⟨b3, 0, none⟩)), (4, .pointer (some ⟨b4, 0, none⟩))]) (fun b4 => Xb b4 ⟨e, D.mem e.id, 0, D.mem e.other, D.mem e.id, false, do0⟩ :: Eb b3 e :: DZ.H b wn ⟨vL0, hL0, .slice AO D.O.length cO, hO0, vA0, hA0, vC0, hC0⟩) (fun _ => True) ?_ ?_
  · refine (.drawW 15 [0, 1, 2, 3, 5, 6, 7, 9, 10, 11] [Eb b3 e] hF (by kernel_rfl) (by kernel_rfl) ?_)
    refine .v (fun _ f => .loadA (vs := e.cells) rfl (.whole (hb := .sub f)) rfl) (.v (fun _ f => .move rfl) (.v (fun _ f => .fieldAddr rfl) (.v (fun _ f => .load (v := .int .u64 e.id) rfl (.one (hb := .sub f) rfl)) (.v (fun _ f => .move rfl) (.v (fun _ f => .fieldAddr rfl) (.v (fun _ f => .load (v := .int .u64 e.other) rfl (.one (hb := .sub f) rfl)) (.v (fun _ f => .move rfl) (.v (fun _ f => .fieldAddr rfl) (.v (fun _ f => .load (v := .int .u64 e.id) rfl (.one (hb := .sub f) rfl)) (.nil ?_))))))))))
    refine .two 4 14 (by kernel_rfl) (.ef rfl (.call0 rfl rfl fun w s => member_ok w b wn vL0 vA0 vC0 AO cO D.O e.id (Rd.blk (T := 110) (hb := ⟨by simp⟩) s) (OwnS.rd oO s (no := []) (fun y hy => by simp [hy]) (by simp)) (by omega)) (fun v hs' ⟨_, ⟨_, e1⟩, e2⟩ f => by subst e1; subst e2; exact f) ?_) (.ef rfl .alloc (fun v hs' ⟨_, _, e⟩ f => by subst e; exact fun y hy => List.mem_cons_of_mem _ (f hy)) ?_)
    · rintro _ _ ⟨_, ⟨rfl, rfl⟩, rfl⟩
      refine .two 8 14 (by kernel_rfl) (.ef rfl (.call0 rfl rfl fun w s => member_ok w b wn vL0 vA0 vC0 AO cO D.O e.other (Rd.blk (T := 110) (hb := ⟨by simp⟩) s) (OwnS.rd oO s (no := []) (fun y hy => by simp [hy]) (by simp)) (by omega)) (fun v hs' ⟨_, ⟨_, e1⟩, e2⟩ f => by subst e1; subst e2; exact f) ?_) (.ef rfl .alloc (fun v hs' ⟨_, _, e⟩ f => by subst e; exact fun y hy => List.mem_cons_of_mem _ (f hy)) ?_)
      · rintro _ _ ⟨_, ⟨rfl, rfl⟩, rfl⟩
        refine .two 12 14 (by kernel_rfl) (.ef rfl (.call0 rfl rfl fun w s => member_ok w b wn vL0 vA0 vC0 AO cO D.O e.id (Rd.blk (T := 110) (hb := ⟨by simp⟩) s) (OwnS.rd oO s (no := []) (fun y hy => by simp [hy]) (by simp)) (by omega)) (fun v hs' ⟨_, ⟨_, e1⟩, e2⟩ f => by subst e1; subst e2; exact f) ?_) (.ef rfl .alloc (fun v hs' ⟨_, _, e⟩ f => by subst e; exact fun y hy => List.mem_cons_of_mem _ (f hy)) ?_)
        · rintro _ _ ⟨_, ⟨rfl, rfl⟩, rfl⟩
          refine .run [13, 14, 15] hF (by kernel_rfl) ?_
          refine .v (fun _ f => .build (out := (⟨e, D.mem e.id, 0, D.mem e.other, D.mem e.id, false, do0⟩ : DSn).cells) rfl rfl) (.ef .alloc (fun v hs' ⟨_, _, e⟩ f => by subst e; exact fun y hy => List.mem_cons_of_mem _ (f hy)) ?_)
          rintro _ _ ⟨b4, rfl, rfl⟩
          refine .st (.sw rfl rfl) (.nil ?_)
          exact ⟨b4, trivial, .cons rfl (.cons rfl (.cons rfl (.nil _))), fun _ s => s.take⟩
        · rintro _ _ ⟨b4, rfl, rfl⟩
          refine .run [12, 13, 15] (fun y hy => List.mem_cons_of_mem _ (hF hy)) (by kernel_rfl) ?_
          refine .pc (v := .int .u32 (memO e.id D.O)) rfl rfl (fun w s => member_ok w b wn vL0 vA0 vC0 AO cO D.O e.id (Rd.blk (T := 110) (hb := ⟨by simp⟩) s) (OwnS.rd oO s (no := []) (fun y hy => by simp [hy]) (by simp)) (by omega)) (.v (fun _ f => .build (out := (⟨e, D.mem e.id, 0, D.mem e.other, D.mem e.id, false, do0⟩ : DSn).cells) rfl rfl) (.st (.sw rfl rfl) (.nil ?_)))
          exact ⟨b4, trivial, .cons rfl (.cons rfl (.cons rfl (.nil _))), fun _ s => s.take⟩
      · rintro _ _ ⟨b4, rfl, rfl⟩
        refine .run [8, 12, 13, 15] (fun y hy => List.mem_cons_of_mem _ (hF hy)) (by kernel_rfl) ?_
        refine .pc (v := .int .u32 (memO e.other D.O)) rfl rfl (fun w s => member_ok w b wn vL0 vA0 vC0 AO cO D.O e.other (Rd.blk (T := 110) (hb := ⟨by simp⟩) s) (OwnS.rd oO s (no := []) (fun y hy => by simp [hy]) (by simp)) (by omega)) (.pc (v := .int .u32 (memO e.id D.O)) rfl rfl (fun w s => member_ok w b wn vL0 vA0 vC0 AO cO D.O e.id (Rd.blk (T := 110) (hb := ⟨by simp⟩) s) (OwnS.rd oO s (no := []) (fun y hy => by simp [hy]) (by simp)) (by omega)) (.v (fun _ f => .build (out := (⟨e, D.mem e.id, 0, D.mem e.other, D.mem e.id, false, do0⟩ : DSn).cells) rfl rfl) (.st (.sw rfl rfl) (.nil ?_))))
        exact ⟨b4, trivial, .cons rfl (.cons rfl (.cons rfl (.nil _))), fun _ s => s.take⟩
    · rintro _ _ ⟨b4, rfl, rfl⟩
      refine .run [4, 8, 12, 13, 15] (fun y hy => List.mem_cons_of_mem _ (hF hy)) (by kernel_rfl) ?_
      refine .pc (v := .int .u32 (memO e.id D.O)) rfl rfl (fun w s => member_ok w b wn vL0 vA0 vC0 AO cO D.O e.id (Rd.blk (T := 110) (hb := ⟨by simp⟩) s) (OwnS.rd oO s (no := []) (fun y hy => by simp [hy]) (by simp)) (by omega)) (.pc (v := .int .u32 (memO e.other D.O)) rfl rfl (fun w s => member_ok w b wn vL0 vA0 vC0 AO cO D.O e.other (Rd.blk (T := 110) (hb := ⟨by simp⟩) s) (OwnS.rd oO s (no := []) (fun y hy => by simp [hy]) (by simp)) (by omega)) (.pc (v := .int .u32 (memO e.id D.O)) rfl rfl (fun w s => member_ok w b wn vL0 vA0 vC0 AO cO D.O e.id (Rd.blk (T := 110) (hb := ⟨by simp⟩) s) (OwnS.rd oO s (no := []) (fun y hy => by simp [hy]) (by simp)) (by omega)) (.v (fun _ f => .build (out := (⟨e, D.mem e.id, 0, D.mem e.other, D.mem e.id, false, do0⟩ : DSn).cells) rfl rfl) (.st (.sw rfl rfl) (.nil ?_)))))
      exact ⟨b4, trivial, .cons rfl (.cons rfl (.cons rfl (.nil _))), fun _ s => s.take⟩
  rintro b4 -
  try dsimp only
  have hseen : ∀ x : DSn, x = (if e.sd = 1 then ⟨e, D.mem e.id, 0, D.mem e.other, D.mem e.id, false, do0⟩ else ⟨e, D.mem e.other, 0, D.mem e.id, D.mem e.id, false, do0⟩) → x = D.seenT e := by
    rintro x rfl; unfold DW.seenT; split <;> rfl
  refine .mid (X := DSn) (fun _ => [(0, .pointer (some ⟨b, 0, none⟩)), (3, .pointer (some ⟨b3, 0, none⟩)), (4, .pointer (some ⟨b4, 0, none⟩))]) (fun x => Xb b4 x :: Eb b3 e :: DZ.H b wn ⟨vL0, hL0, .slice AO D.O.length cO, hO0, vA0, hA0, vC0, hC0⟩) (fun x => x = D.seenT e) (.seq ((.region (.v (.fieldAddr rfl) (.v (.load (v := .int .i64 e.sd) rfl (.one rfl)) (.v (.nei rfl rfl) (.nil ?_))))))) ?_
  · refine .cond_dec rfl (fun h1 => ?_) (fun h1 => .skip ?_)
    · refine .region (.v (.fieldAddr rfl) (.v (.load (v := .int .u32 (D.mem e.other)) rfl (.one rfl)) (.v (.fieldAddr rfl) (.v (.load (v := .int .u32 (D.mem e.id)) rfl (.one rfl)) (.v (.fieldAddr rfl) (.st (.store (b := b4) (l := (⟨e, D.mem e.id, 0, D.mem e.other, D.mem e.id, false, do0⟩ : DSn).cells) rfl rfl rfl (by show 0 + 13 < 22; omega)) (.v (.fieldAddr rfl) (.st (.store (b := b4) (l := (⟨e, D.mem e.id, 0, D.mem e.other, D.mem e.id, false, do0⟩ : DSn).cells.set (0 + 13) (.int .u32 (D.mem e.other))) rfl rfl rfl (by rw [List.length_set]; show 0 + 15 < 22; omega)) (.nil ?_)))))))))
      exact ⟨⟨e, D.mem e.other, 0, D.mem e.id, D.mem e.id, false, do0⟩, hseen _ (by rw [if_neg h1]), .cons rfl (.cons rfl (.cons rfl (.nil _))), fun _ s => s⟩
    · exact ⟨⟨e, D.mem e.id, 0, D.mem e.other, D.mem e.id, false, do0⟩, hseen _ (by rw [if_pos (Decidable.not_not.1 h1)]), .cons rfl (.cons rfl (.cons rfl (.nil _))), fun _ s => s⟩
  clear hseen hF
  rintro x hx
  try dsimp only at hx ⊢
  refine .seq ((.region (.v (.move rfl) (.v (.fieldAddr rfl) (.v (.load (v := .int .u64 e.id) rfl (.one rfl)) ?_)))))
  refine .ef (.callT (DZ.H b wn ⟨vL0, hL0, .slice AO D.O.length cO, hO0, vA0, hA0, vC0, hC0⟩) rfl rfl fun w s => traded_ok w b wn D ⟨vL0, hL0, .slice AO D.O.length cO, hO0, vA0, hA0, vC0, hC0⟩ ⟨oL, oO, oA, oc⟩ e.id (by omega)) ?_
  rintro _ _ ⟨_, ⟨z1, rfl, hI1⟩, rfl⟩
  refine .nil ?_
  refine .seq ((.region (.v (.move rfl) (.v (.fieldAddr rfl) (.v (.load (v := .int .u64 e.other) rfl (.one rfl)) ?_)))))
  refine .ef (.callT (z1.H b wn) rfl rfl fun w s => traded_ok w b wn _ z1 hI1 e.other (by rw [dtr_len]; omega)) ?_
  rintro _ _ ⟨_, ⟨⟨vL, hL, vO, hO, vA, hA, vC, hC⟩, rfl, hI2⟩, rfl⟩
  refine .nil ?_
  clear oL oO oA oc hI1
  obtain ⟨oL, oO, oA, oc⟩ := hI2
  dsimp only at oL oO oA oc ⊢
  obtain ⟨AL, cL, rfl⟩ := OwnS.slice oL
  refine .keep (Xb b4 x :: Eb b3 e :: DZ.H b wn ⟨.slice AL D.L.length cL, hL, vO, hO, vA, hA, vC, hC⟩) ?_
  refine .seq ((.drawQ 10 [0, 1, 2, 3, 4, 5, 6, 7, 8, 9, 10] [Xb b4 x, Db b wn (.slice AL D.L.length cL) vO vA vC] (by intro y hy; simp at hy ⊢; rcases hy with rfl | rfl <;> simp) (by kernel_rfl) (by kernel_rfl) ?_))
  refine .v (fun _ f => .move rfl) (.v (fun _ f => .move rfl) (.v (fun _ f => .nilCheck rfl) (.v (fun _ f => .fieldAddr rfl) (.v (fun _ f => .load (v := .slice AL D.L.length cL) rfl (.one (hb := .sub f) rfl)) (.v (fun _ f => .loadA (vs := x.cells) rfl (.whole (hb := .sub f)) rfl) ?_)))))
  refine .ef (.buildSlice (out := x.cells) rfl (by decide) rfl rfl) (fun v hs' ⟨_, _, e⟩ f => by subst e; exact fun y hy => List.mem_cons_of_mem _ (f hy)) ?_
  rintro _ _ ⟨bn, rfl, rfl⟩
  refine .ef (.append (c := D.L.length) (k := 1) (vs := dsrows D.L) (news := x.cells) (h := hL) rfl rfl oL TakeI.out (fun w' s => Src.of_at s .whole rfl) rfl rfl (by omega) (by omega)) (fun v hs' ⟨_, _, e⟩ f => by subst e; intro y hy; simp at hy; rcases hy with rfl | rfl <;> simp) ?_
  rintro vL' _ ⟨hL', oL', rfl⟩
  obtain ⟨AL', cL', rfl⟩ := OwnS.slice oL'
  refine .v (fun _ f => .nilCheck rfl) (.v (fun _ f => .fieldAddr rfl) (.st (.storeL (l' := dcells wn (.slice AL' (D.L.length + 1) cL') vO vA vC) rfl rfl rfl) (.nil ?_)))
  have oL2 := LOwn.snoc oL'
  rw [hx] at oL2
  have hI2 : DI (D.tr1 e) ⟨.slice AL' (D.tr1 e).L.length cL', hL', vO, hO, vA, hA, vC, hC⟩ := ⟨oL2, oO, oA, oc⟩
  have hB2 := DW.tr1_push hB e
  have eL : D.L.length + 1 = (D.tr1 e).L.length := by unfold DW.tr1; simp
  rw [eL]
  clear oL2 oL' oL oO oA oc eL
  refine .keep (Xb b4 x :: Eb b3 e :: DZ.H b wn ⟨.slice AL' (D.tr1 e).L.length cL', hL', vO, hO, vA, hA, vC, hC⟩) ?_
  have hB3 : (D.tr2 wn e).OkN 2 := by
    unfold DW.tr2; split
    · exact hB2.alert wn _ _ _ _
    · exact hB2.mono (by omega)
  refine .mid (X := DZ) (fun _ => [(0, .pointer (some ⟨b, 0, none⟩)), (3, .pointer (some ⟨b3, 0, none⟩)), (4, .pointer (some ⟨b4, 0, none⟩))]) (fun z => Xb b4 x :: Eb b3 e :: z.H b wn) (fun z => DI (D.tr2 wn e) z) (.seq ((.region (.v (.fieldAddr rfl) (.v (.load (v := .int .u32 x.by_) rfl (.one rfl)) (.v (.fieldAddr rfl) (.v (.load (v := .int .u32 x.se) rfl (.one rfl)) (.v (.eqi rfl rfl) (.nil ?_))))))))) ?_
  · unfold DW.tr2
    rw [← hx]
    refine .cond_dec rfl (fun h2 => ?_) (fun h2 => .skip ?_)
    · rw [if_pos h2]
      refine .region (.v (.move rfl) (.v (.fieldAddr rfl) (.v (.load (v := .int .u32 x.by_) rfl (.one rfl)) (.v (.fieldAddr rfl) (.v (.load (v := .int .u64 e.id) rfl (.one rfl)) ?_)))))
      refine .ef (.callT (DZ.H b wn ⟨.slice AL' (D.tr1 e).L.length cL', hL', vO, hO, vA, hA, vC, hC⟩) rfl rfl fun w s => dalert_ok w b wn hw (D.tr1 e) ⟨.slice AL' (D.tr1 e).L.length cL', hL', vO, hO, vA, hA, vC, hC⟩ hI2 (hB2.ok (by omega)) 1 x.by_ e.id 0) ?_
      rintro _ _ ⟨_, ⟨z', rfl, hI'⟩, rfl⟩
      refine .nil ?_
      exact ⟨z', hI', .cons rfl (.cons rfl (.cons rfl (.nil _))), fun _ s => s.take⟩
    · rw [if_neg h2]
      exact ⟨_, hI2, .cons rfl (.cons rfl (.cons rfl (.nil _))), fun _ s => s⟩
  clear hI2 hB2
  have hcm : x.cm = D.mem e.id := by rw [hx]; rfl
  have hxe : x.e = e := by rw [hx]; rfl
  clear hx
  unfold DW.traded
  generalize D.tr2 wn e = D2 at hB3 ⊢
  generalize D.mem e.id = cm at hcm ⊢
  rintro ⟨vL, hL, vO, hO, vA, hA, vC, hC⟩ ⟨oL, oO, oA, oc⟩
  dsimp only at oL oO oA oc ⊢
  obtain ⟨AL, cL, rfl⟩ := OwnS.slice oL
  have bL2 := hB3.l
  have hcap := (OwnS.cap_ oL).2
  refine .seq ((.region (.v (.move rfl) (.pc (v := .slice (cutA AL cL (D2.L.length - wn.span.toNat) 22) (D2.L.length - (D2.L.length - wn.span.toNat)) (cL - (D2.L.length - wn.span.toNat))) rfl rfl (fun w s => last_ok w b wn hw vO vA vC AL D2.L.length cL (Rd.blk (T := 110) (hb := ⟨by simp⟩) s) (by omega)) (.v (.assign rfl) (.nil ?_))))))
  have oT : OwnS 114 22 (.slice (cutA AL cL (D2.L.length - wn.span.toNat) 22) (D2.L.length - (D2.L.length - wn.span.toNat)) (cL - (D2.L.length - wn.span.toNat))) (D2.L.length - (D2.L.length - wn.span.toNat)) (dsrows (D2.last wn)) hL := by
    have h := OwnS.cut oL (i := D2.L.length - wn.span.toNat) (by omega) (by omega)
    have e1 : (dsrows D2.L).drop ((D2.L.length - wn.span.toNat) * 22) = dsrows (D2.last wn) := by
      unfold dsrows DW.last
      rw [rows_drop DSn.cells 22 (fun _ => rfl)]
    rw [e1] at h; exact h
  have eT : D2.L.length - (D2.L.length - wn.span.toNat) = (D2.last wn).length := by unfold DW.last; rw [List.length_drop]
  rw [eT] at oT ⊢
  generalize D2.last wn = l at oT eT ⊢
  generalize cutA AL cL (D2.L.length - wn.span.toNat) 22 = AT at oT ⊢
  generalize cL - (D2.L.length - wn.span.toNat) = cT at oT ⊢
  have hI3 : DI D2 ⟨.slice AL D2.L.length cL, hL, vO, hO, vA, hA, vC, hC⟩ := ⟨oL, oO, oA, oc⟩
  have bl_ : l.length ≤ 1000000000 := by omega
  clear eT oL oO oA oc
  refine .seq ((.region (.v (.assign rfl) (.nil ?_))))
  refine .block (.loop (X := Nat) (fun i => [(0, .pointer (some ⟨b, 0, none⟩)), (3, .pointer (some ⟨b3, 0, none⟩)), (4, .pointer (some ⟨b4, 0, none⟩)), (5, .slice AT l.length cT), (6, .int .i64 (i : Nat))]) (fun _ => Xb b4 x :: Eb b3 e :: DZ.H b wn ⟨.slice AL D2.L.length cL, hL, vO, hO, vA, hA, vC, hC⟩) (fun i => i ≤ l.length ∧ ∀ j, (hj : j < l.length) → j < i → decide (l[j].e.kind = 3) = false) (fun i => l.length - i) 0 ⟨Nat.zero_le _, fun j hj h => absurd h (by omega)⟩ (.cons rfl (.cons rfl (.cons rfl (.cons rfl (.cons rfl (.nil _)))))) (fun _ s => s) ?_)
  rintro i ⟨hi, hf⟩
  refine .seq (.seq ((.region (.v (.move rfl) (.v (.move rfl) (.v (.len rfl) (.v (.lss rfl rfl) (.nil ?_))))))))
  refine .cond_dec rfl (fun h3 => .skip ?_) (fun h3 => .exit ?_)
  case refine_2 =>
    rw [find_miss (fun j hj => hf j hj (by omega))]
    exact ⟨[], trivial, DZ.H b wn ⟨.slice AL D2.L.length cL, hL, vO, hO, vA, hA, vC, hC⟩, fun _ s => s.take, _, rfl, hI3⟩
  have hil : i < l.length := by omega
  obtain ⟨bT, oT', lT, rfl, -, rfl, -, -, -⟩ := OwnS.some_ oT (by omega)
  have hA0 := fun hs' hsub => OwnS.at0 (w0 := w) (own := bl (DZ.H b wn ⟨vL0, hL0, .slice AO D.O.length cO, hO0, vA0, hA0, vC0, hC0⟩)) (hs := hs') oT hsub
  have qk := fun hs' hsub => fldAt DSn.cells 22 (fun _ => rfl) (z := (i : Int)) (hA0 hs' hsub) hil 1 (v := .int .i64 l[i].e.kind) rfl
  have qp := fun hs' hsub => fldAt DSn.cells 22 (fun _ => rfl) (z := (i : Int)) (hA0 hs' hsub) hil 8 (v := .int .i64 l[i].e.pr) rfl
  clear hA0
  refine .seq (.block (.seq (.seq ((.region (.v (.move rfl) (.v (.move rfl) (.v (.indexAddr rfl rfl (by omega) (by omega)) (.v (.fieldAddr rfl) (.v (.fieldAddr rfl) (.v (.load (v := .int .i64 l[i].e.kind) rfl (qk _ (fun y hy => by simp at hy; subst hy; simp))) (.v (.nei rfl rfl) (.nil ?_)))))))))))))
  refine .cond_dec rfl (fun h4 => .exit ?_) (fun h4 => .skip ?_)
  · refine .region (.v (.move rfl) (.v (.addi rfl rfl (by omega)) (.v (.assign rfl) (.nil ?_))))
    exact ⟨i + 1, ⟨hil, fun j hj hji => by rcases Nat.lt_succ_iff_lt_or_eq.1 hji with h | rfl; exact hf j hj h; simpa using h4⟩, by omega, .cons rfl (.cons rfl (.cons rfl (.cons rfl (.cons rfl (.nil _))))), fun _ s => s⟩
  have h4' : decide (l[i].e.kind = 3) = true := by
    rw [decide_eq_true_eq]
    by_cases hh : l[i].e.kind = 3
    · exact hh
    · exact absurd hh h4
  rw [find_hit hil h4' hf]
  dsimp only
  have ht1 := tick_rng e.pr
  have ht2 := tick_rng l[i].e.pr
  generalize l[i] = y at qk qp h4 h4' ht2 ⊢
  refine .seq ((.drawP [0, 1, 3, 4, 5, 6, 7, 8, 2, 9, 10, 11] [Eb b3 e, (bT, Ch.cells lT 114)] (by intro y hy; simp at hy ⊢; rcases hy with rfl | rfl <;> simp) (by kernel_rfl) (by kernel_rfl) ?_))
  refine .v (fun _ f => .fieldAddr rfl) (.v (fun _ f => .load (v := .int .i64 e.pr) rfl (.one (hb := .sub f) rfl)) (.v (fun _ f => .move rfl) (.v (fun _ f => .move rfl) (.v (fun _ f => .indexAddr rfl rfl (by omega) (by omega)) (.v (fun _ f => .fieldAddr rfl) (.v (fun _ f => .fieldAddr rfl) (.v (fun hs' f => .load (v := .int .i64 y.e.pr) rfl (qp hs' (fun y hy => f (by simp at hy; subst hy; simp)))) (.pc (v := .int .i64 (tickOf e.pr)) rfl rfl (fun w s => tick_ok w _) (.pc (v := .int .i64 (tickOf y.e.pr)) rfl rfl (fun w s => tick_ok w _) (.v (fun _ f => .subi rfl rfl (by omega)) (.v (fun _ f => .assign rfl) (.nil ?_))))))))))))
  have hd : -262144 ≤ tickOf e.pr - tickOf y.e.pr ∧ tickOf e.pr - tickOf y.e.pr ≤ 262144 := by omega
  generalize tickOf e.pr - tickOf y.e.pr = d at hd ⊢
  refine .mid (X := Int) (fun d' => [(0, .pointer (some ⟨b, 0, none⟩)), (3, .pointer (some ⟨b3, 0, none⟩)), (4, .pointer (some ⟨b4, 0, none⟩)), (7, .int .i64 d')]) (fun _ => Xb b4 x :: Eb b3 e :: DZ.H b wn ⟨.slice AL D2.L.length cL, [(bT, Ch.cells lT 114)], vO, hO, vA, hA, vC, hC⟩) (fun d' => d' = absI d) (.seq ((.region (.v (.move rfl) (.v (.lss rfl rfl) (.nil ?_)))))) ?_
  · unfold absI
    refine .cond_dec rfl (fun h5 => ?_) (fun h5 => .skip ?_)
    · rw [if_pos h5]
      refine .region (.v (.move rfl) (.v (.negE (-d) rfl rfl (by omega)) (.v (.assign rfl) (.nil ?_))))
      exact ⟨-d, rfl, .cons rfl (.cons rfl (.cons rfl (.cons rfl (.nil _)))), fun _ s => s⟩
    · rw [if_neg h5]
      exact ⟨d, rfl, .cons rfl (.cons rfl (.cons rfl (.cons rfl (.nil _)))), fun _ s => s⟩
  rintro d' rfl
  refine .seq (.seq ((.region (.v (.move rfl) (.v (.move rfl) (.v (.nilCheck rfl) (.v (.fieldAddr rfl) (.v (.fieldAddr rfl) (.v (.load (v := .int .i64 wn.mov) rfl (.one rfl)) (.v (.gtr rfl rfl) (.nil ?_)))))))))))
  refine .cond_dec rfl (fun h6 => ?_) (fun h6 => .skip ?_)
  · rw [if_pos h6]
    refine .region (.v (.move rfl) (.v (.fieldAddr rfl) (.v (.load (v := .int .u32 x.cm) rfl (.one rfl)) (.v (.fieldAddr rfl) (.v (.load (v := .int .u64 e.id) rfl (.one rfl)) (.v (.move rfl) ?_))))))
    rw [hcm]
    refine .ef (.callT (DZ.H b wn ⟨.slice AL D2.L.length cL, [(bT, Ch.cells lT 114)], vO, hO, vA, hA, vC, hC⟩) rfl rfl fun w s => dalert_ok w b wn hw D2 ⟨.slice AL D2.L.length cL, [(bT, Ch.cells lT 114)], vO, hO, vA, hA, vC, hC⟩ hI3 (hB3.ok (by omega)) 4 cm e.id (absI d)) ?_
    rintro _ _ ⟨_, ⟨z', rfl, hI'⟩, rfl⟩
    refine .nil ?_
    exact .ret ⟨[], trivial, z'.H b wn, fun _ s => s.take, z', rfl, hI'⟩
  · rw [if_neg h6]
    exact .ret ⟨[], trivial, DZ.H b wn ⟨.slice AL D2.L.length cL, [(bT, Ch.cells lT 114)], vO, hO, vA, hA, vC, hC⟩, fun _ s => s.take, _, rfl, hI3⟩
end Go.Proofs.Ytcbppikkoelimaa

/- Surveil: cancelled of the document. -/
namespace Go.Proofs.Ytcbppikkoelimaa
open Go.V
set_option linter.unusedVariables false
set_option linter.unusedSimpArgs false
set_option maxRecDepth 20000

abbrev lyB (m s : Int) (y : DSn) : Bool := (lay y && decide (y.od.m = m)) && decide (y.od.s = s)
abbrev mtB (m s : Int) (y : DSn) : Bool := decide (y.e.kind = 3) && ((decide (s = 1) && decide (y.se = m)) || (!decide (s = 1) && decide (y.by_ = m)))
theorem dlayN_succ (m s : Int) {l : List DSn} {i : Nat} (h : i < l.length) : dlayN m s (l.take (i + 1)) = dlayN m s (l.take i) + if lyB m s l[i] = true then 1 else 0 := by
  rw [List.take_succ_eq_append_getElem h]; unfold dlayN; rw [List.countP_append, List.countP_singleton]
theorem dmet_succ (m s : Int) {l : List DSn} {i : Nat} (h : i < l.length) : dmet m s (l.take (i + 1)) = (dmet m s (l.take i) || mtB m s l[i]) := by
  rw [List.take_succ_eq_append_getElem h]; unfold dmet; rw [List.any_append]; simp
structure KM where
  k : Nat
  o : Bool
set_option maxHeartbeats 2000000 in
theorem dcancelled_ok (w : World) (b : Nat) (wn : Wn) (hw : wn.Can) (D : DW) (z : DZ) (hI : DI D z) (hB : D.OkN 0) (e : Ev) :
    Does Try.prog 37 [.pointer (some ⟨b, 0, none⟩), .agg ⟨e.cells⟩] (z.H b wn) w (fun _ hs => ∃ z', hs = z'.H b wn ∧ DI (D.cancelled wn e) z') := by
  obtain ⟨vL0, hL0, vO, hO, vA, hA, vC, hC⟩ := z
  obtain ⟨oL, oO, oA, oc⟩ := hI
  have bL := hB.l
  have bO := hB.o
  have bA := hB.a
  dsimp only at oL oO oA oc ⊢
  obtain ⟨AO, cO, rfl⟩ := OwnS.slice oO
  obtain ⟨AL, cL, rfl⟩ := OwnS.slice oL
  refine Does.less (Does.of (n := 132) Try.func37 rfl rfl rfl rfl ?_)
  refine .seq ((.region (.nw (.box (l := e.cells) rfl rfl) fun b3 => (.nil ?_))))
  refine .seq ((.region (.v (.loadA (vs := e.cells) rfl .whole rfl) (.v (.build (out := (⟨e, 0, 0, 0, 0, false, do0⟩ : DSn).cells) rfl rfl) (.nw .alloc fun b4 => (.st (.sw rfl rfl) (.nil ?_)))))))
  refine .mid (X := DSn) (fun _ => [(0, .pointer (some ⟨b, 0, none⟩)), (3, .pointer (some ⟨b3, 0, none⟩)), (4, .pointer (some ⟨b4, 0, none⟩))]) (fun x => Xb b4 x :: Eb b3 e :: DZ.H b wn ⟨.slice AL D.L.length cL, hL0, .slice AO D.O.length cO, hO, vA, hA, vC, hC⟩) (fun x => x = D.seenC e) (.seq ((.region (.v (.move rfl) (.v (.fieldAddr rfl) (.v (.load (v := .int .u64 e.id) rfl (.one rfl)) (.pc (v := .int .i64 (fixI e.id D.O)) rfl rfl (fun w s => find_ok w b wn (.slice AL D.L.length cL) vA vC AO cO D.O e.id (Rd.blk (T := 110) (hb := ⟨by simp⟩) s) (OwnS.rd oO s (no := []) (fun y hy => by simp [hy]) (by simp)) (by omega)) (.v (.assign rfl) (.nil ?_))))))))) ?_
  · unfold DW.seenC
    rcases fixI_cases e.id D.O with ⟨h1, h2, h3⟩ | ⟨i, h1, h2, hi, h3, h4⟩
    · rw [h1, h3]
      refine .seq ((.region (.v (.move rfl) (.v (.geq rfl rfl) (.nil ?_)))))
      refine .cond_dec rfl (fun h1 => absurd h1 (by decide)) (fun h1 => .skip ?_)
      exact ⟨⟨e, 0, 0, 0, 0, false, do0⟩, rfl, .cons rfl (.cons rfl (.cons rfl (.nil _))), fun _ s => s⟩
    · rw [h1, h4]
      obtain ⟨bO', oO', lO, rfl, -, rfl, hcc, hlO, -⟩ := OwnS.some_ oO (by omega)
      have hat := fun hs' hsub => recAt DO.cells 4 (fun _ => rfl) (z := (i : Int)) (OwnS.at0 (w0 := w) (own := bl (DZ.H b wn ⟨.slice AL D.L.length cL, hL0, .slice (some ⟨bO', oO', none⟩) D.O.length cO, [(bO', Ch.cells lO 112)], vA, hA, vC, hC⟩)) (hs := hs') oO hsub) hi
      generalize D.O[i] = o at hat ⊢
      refine .keep (Xb b4 ⟨e, 0, 0, 0, 0, false, do0⟩ :: Eb b3 e :: Db b wn (.slice AL D.L.length cL) (.slice (some ⟨bO', oO', none⟩) D.O.length cO) vA vC :: (bO', Ch.cells lO 112) :: (hL0 ++ (hA ++ hC))) ?_
      refine .seq ((.region (.v (.move rfl) (.v (.geq rfl rfl) (.nil ?_)))))
      refine .cond_dec rfl (fun h1 => ?_) (fun h1 => absurd (by omega) h1)
      refine .draw [Db b wn (.slice AL D.L.length cL) (.slice (some ⟨bO', oO', none⟩) D.O.length cO) vA vC, (bO', Ch.cells lO 112)] (by intro y hy; simp at hy ⊢; rcases hy with rfl | rfl <;> simp) (by kernel_rfl) ?_
      refine .v 0 rfl (by kernel_rfl) (fun _ f => .move rfl) (.v 1 rfl (by kernel_rfl) (fun _ f => .nilCheck rfl) (.v 2 rfl (by kernel_rfl) (fun _ f => .fieldAddr rfl) (.v 3 rfl (by kernel_rfl) (fun _ f => .load (v := .slice (some ⟨bO', oO', none⟩) D.O.length cO) rfl (.one (hb := .sub f) rfl)) (.v 4 rfl (by kernel_rfl) (fun _ f => .move rfl) (.v 5 rfl (by kernel_rfl) (fun _ f => .indexAddr rfl rfl (by omega) (by omega)) (.v 6 rfl (by kernel_rfl) (fun hs' f => .loadA (vs := o.cells) rfl (hat hs' (fun y hy => f (by simp at hy; subst hy; simp))) rfl) (.v 7 rfl (by kernel_rfl) (fun _ f => .fieldAddr rfl) (.st 8 rfl (by kernel_rfl) (.store (b := b4) (l := (⟨e, 0, 0, 0, 0, false, do0⟩ : DSn).cells) rfl rfl rfl (by show 0 + 17 < 22; omega)) (.v 9 rfl (by kernel_rfl) (fun _ f => .fieldAddr rfl) (.st 10 rfl (by kernel_rfl) (.storeA (b := b4) (l := (⟨e, 0, 0, 0, 0, false, do0⟩ : DSn).cells.set (0 + 17) (.bool true)) rfl rfl rfl rfl (by rw [List.length_set]; show 0 + 18 + 4 ≤ 22; omega)) (.done (by kernel_rfl) ?_) (fun _ y hy => by simp at hy ⊢; rcases hy with rfl | rfl <;> simp))) (fun _ y hy => by simp at hy ⊢; rcases hy with rfl | rfl <;> simp)))))))))
      exact ⟨⟨e, 0, 0, 0, 0, true, o⟩, rfl, .cons rfl (.cons rfl (.cons rfl (.nil _))), fun w s => (show Sat _ _ (Xb b4 ⟨e, 0, 0, 0, 0, true, o⟩ :: Eb b3 e :: Db b wn (.slice AL D.L.length cL) (.slice (some ⟨bO', oO', none⟩) D.O.length cO) vA vC :: (bO', Ch.cells lO 112) :: (hL0 ++ (hA ++ hC))) w from s).take⟩
  rintro x hx
  try dsimp only at hx ⊢
  refine .seq ((.drawQ 10 [0, 1, 2, 3, 4, 5, 6, 7, 8, 9, 10] [Xb b4 x, Db b wn (.slice AL D.L.length cL) (.slice AO D.O.length cO) vA vC] (by intro y hy; simp at hy ⊢; rcases hy with rfl | rfl <;> simp) (by kernel_rfl) (by kernel_rfl) ?_))
  refine .v (fun _ f => .move rfl) (.v (fun _ f => .move rfl) (.v (fun _ f => .nilCheck rfl) (.v (fun _ f => .fieldAddr rfl) (.v (fun _ f => .load (v := .slice AL D.L.length cL) rfl (.one (hb := .sub f) rfl)) (.v (fun _ f => .loadA (vs := x.cells) rfl (.whole (hb := .sub f)) rfl) ?_)))))
  refine .ef (.buildSlice (out := x.cells) rfl (by decide) rfl rfl) (fun v hs' ⟨_, _, e⟩ f => by subst e; exact fun y hy => List.mem_cons_of_mem _ (f hy)) ?_
  rintro _ _ ⟨bn, rfl, rfl⟩
  refine .ef (.append (c := D.L.length) (k := 1) (vs := dsrows D.L) (news := x.cells) (h := hL0) rfl rfl oL TakeI.out (fun w' s => Src.of_at s .whole rfl) rfl rfl (by omega) (by omega)) (fun v hs' ⟨_, _, e⟩ f => by subst e; intro y hy; simp at hy; rcases hy with rfl | rfl <;> simp) ?_
  rintro vL' _ ⟨hL', oL', rfl⟩
  obtain ⟨AL', cL', rfl⟩ := OwnS.slice oL'
  refine .v (fun _ f => .nilCheck rfl) (.v (fun _ f => .fieldAddr rfl) (.st (.storeL (l' := dcells wn (.slice AL' (D.L.length + 1) cL') (.slice AO D.O.length cO) vA vC) rfl rfl rfl) (.nil ?_)))
  have oL2 := LOwn.snoc oL'
  have hI2 : DI (D.push x) ⟨.slice AL' (D.push x).L.length cL', hL', .slice AO D.O.length cO, hO, vA, hA, vC, hC⟩ := ⟨oL2, oO, oA, oc⟩
  have hB2 : (D.push x).OkN 1 := hB.push x (O := D.O) (by omega)
  have eL : D.L.length + 1 = (D.push x).L.length := by unfold DW.push; simp
  rw [eL]
  generalize (.slice AO D.O.length cO : Value) = vO at hI2 ⊢
  unfold DW.cancelled
  rw [← hx]
  have hxe : x.e = e := by rw [hx]; unfold DW.seenC; split <;> rfl
  clear oL2 oL' oL oO oA oc eL hx bL bO bA hB
  generalize D.push x = D2 at hI2 hB2 ⊢
  refine .keep (Xb b4 x :: Eb b3 e :: DZ.H b wn ⟨.slice AL' D2.L.length cL', hL', vO, hO, vA, hA, vC, hC⟩) ?_
  refine .seq (.seq ((.region (.v (.loadA (vs := x.cells) rfl .whole rfl) (.pc (v := .bool (lay x)) rfl rfl (fun w s => layered_ok w x) (.v (.not rfl) (.nil ?_)))))))
  refine .cond rfl (fun h2 => ?_) (fun h2 => .skip ?_)
  · rw [if_neg (by intro hh; rw [hh] at h2; cases h2)]
    exact .ret ⟨[], trivial, DZ.H b wn ⟨.slice AL' D2.L.length cL', hL', vO, hO, vA, hA, vC, hC⟩, fun _ s => s.take, _, rfl, hI2⟩
  rw [if_pos (by rw [Bool.not_eq_false'] at h2; exact h2)]
  refine .seq ((.drawK [Xb b4 x] (by intro y hy; simp at hy ⊢; exact .inl hy) (by kernel_rfl) (by kernel_rfl) ?_))
  refine .v (fun _ f => .fieldAddr rfl) (.v (fun _ f => .fieldAddr rfl) (.v (fun _ f => .load (v := .int .u32 x.od.m) rfl (.one (hb := .sub f) rfl)) (.v (fun _ f => .fieldAddr rfl) (.v (fun _ f => .fieldAddr rfl) (.v (fun _ f => .load (v := .int .i64 x.od.s) rfl (.one (hb := .sub f) rfl)) (.v (fun _ f => .assign rfl) (.v (fun _ f => .assign rfl) (.nil ?_))))))))
  generalize x.od.m = m
  generalize x.od.s = s
  have oL := hI2.l
  dsimp only at oL
  have bL2 := hB2.l
  have hcap := (OwnS.cap_ oL).2
  refine .seq ((.region (.v (.move rfl) (.pc (v := .slice (cutA AL' cL' (D2.L.length - wn.span.toNat) 22) (D2.L.length - (D2.L.length - wn.span.toNat)) (cL' - (D2.L.length - wn.span.toNat))) rfl rfl (fun w s => last_ok w b wn hw vO vA vC AL' D2.L.length cL' (Rd.blk (T := 110) (hb := ⟨by simp⟩) s) (by omega)) (.v (.assign rfl) (.nil ?_))))))
  have oT : OwnS 114 22 (.slice (cutA AL' cL' (D2.L.length - wn.span.toNat) 22) (D2.L.length - (D2.L.length - wn.span.toNat)) (cL' - (D2.L.length - wn.span.toNat))) (D2.L.length - (D2.L.length - wn.span.toNat)) (dsrows (D2.last wn)) hL' := by
    have h := OwnS.cut oL (i := D2.L.length - wn.span.toNat) (by omega) (by omega)
    have e1 : (dsrows D2.L).drop ((D2.L.length - wn.span.toNat) * 22) = dsrows (D2.last wn) := by
      unfold dsrows DW.last
      rw [rows_drop DSn.cells 22 (fun _ => rfl)]
    rw [e1] at h; exact h
  have eT : D2.L.length - (D2.L.length - wn.span.toNat) = (D2.last wn).length := by unfold DW.last; rw [List.length_drop]
  rw [eT] at oT ⊢
  generalize D2.last wn = l at oT eT ⊢
  generalize cutA AL' cL' (D2.L.length - wn.span.toNat) 22 = AT at oT ⊢
  generalize cL' - (D2.L.length - wn.span.toNat) = cT at oT ⊢
  have bl_ : l.length ≤ 1000000000 := by omega
  clear eT oL
  refine .seq ((.region (.v (.assign rfl) (.v (.assign rfl) (.nil ?_)))))
  refine .seq (.seq ((.region (.v (.assign rfl) (.nil ?_)))))
  refine .block (.loop (X := Nat) (fun i => [(0, .pointer (some ⟨b, 0, none⟩)), (3, .pointer (some ⟨b3, 0, none⟩)), (6, .int .u32 m), (7, .int .i64 s), (8, .slice AT l.length cT), (9, .int .i64 (dlayN m s (l.take i) : Nat)), (10, .bool (dmet m s (l.take i))), (11, .int .i64 (i : Nat))]) (fun _ => Xb b4 x :: Eb b3 e :: DZ.H b wn ⟨.slice AL' D2.L.length cL', hL', vO, hO, vA, hA, vC, hC⟩) (fun i => i ≤ l.length) (fun i => l.length - i) 0 (Nat.zero_le _) (.cons rfl (.cons rfl (.cons rfl (.cons rfl (.cons rfl (.cons rfl (.cons rfl (.cons rfl (.nil _))))))))) (fun _ s => s) ?_)
  rintro i hi
  refine .seq (.seq ((.region (.v (.move rfl) (.v (.move rfl) (.v (.len rfl) (.v (.lss rfl rfl) (.nil ?_))))))))
  refine .cond_dec rfl (fun h3 => .skip ?_) (fun h3 => .exit ?_)
  · have hil : i < l.length := by omega
    obtain ⟨bT, oT', lT, rfl, -, rfl, -, -, -⟩ := OwnS.some_ oT (by omega)
    have hA0 := fun hs' hsub => OwnS.at0 (w0 := w) (own := bl (DZ.H b wn ⟨.slice AL D.L.length cL, hL0, .slice AO D.O.length cO, hO, vA, hA, vC, hC⟩)) (hs := hs') oT hsub
    have qr := fun hs' hsub => recAt DSn.cells 22 (fun _ => rfl) (z := (i : Int)) (hA0 hs' hsub) hil
    have qk := fun hs' hsub => fldAt DSn.cells 22 (fun _ => rfl) (z := (i : Int)) (hA0 hs' hsub) hil 1 (v := .int .i64 l[i].e.kind) rfl
    have qb := fun hs' hsub => fldAt DSn.cells 22 (fun _ => rfl) (z := (i : Int)) (hA0 hs' hsub) hil 13 (v := .int .u32 l[i].by_) rfl
    have qs := fun hs' hsub => fldAt DSn.cells 22 (fun _ => rfl) (z := (i : Int)) (hA0 hs' hsub) hil 15 (v := .int .u32 l[i].se) rfl
    have qm := fun hs' hsub => fldAt DSn.cells 22 (fun _ => rfl) (z := (i : Int)) (hA0 hs' hsub) hil 19 (v := .int .u32 l[i].od.m) rfl
    have qd := fun hs' hsub => fldAt DSn.cells 22 (fun _ => rfl) (z := (i : Int)) (hA0 hs' hsub) hil 20 (v := .int .i64 l[i].od.s) rfl
    clear hA0
    have hn := dlayN_succ m s hil
    have hm := dmet_succ m s hil
    have hle : dlayN m s (l.take i) ≤ 1000000000 := by
      have h1 : dlayN m s (l.take i) ≤ (l.take i).length := List.countP_le_length
      rw [List.length_take] at h1; omega
    generalize l[i] = y at qr qk qb qs qm qd hn hm
    generalize dlayN m s (l.take i) = k at hn hle ⊢
    generalize dmet m s (l.take i) = ot at hm ⊢
    have hsb : ∀ y ∈ [(bT, Ch.cells lT 114)], y ∈ Xb b4 x :: Eb b3 e :: DZ.H b wn ⟨.slice AL' D2.L.length cL', [(bT, Ch.cells lT 114)], vO, hO, vA, hA, vC, hC⟩ := fun y hy => by simp at hy; subst hy; simp
    refine .mid (X := KM) (fun q => [(0, .pointer (some ⟨b, 0, none⟩)), (3, .pointer (some ⟨b3, 0, none⟩)), (6, .int .u32 m), (7, .int .i64 s), (8, .slice (some ⟨bT, oT', none⟩) l.length cT), (9, .int .i64 q.k), (10, .bool q.o), (11, .int .i64 (i : Nat))]) (fun _ => Xb b4 x :: Eb b3 e :: DZ.H b wn ⟨.slice AL' D2.L.length cL', [(bT, Ch.cells lT 114)], vO, hO, vA, hA, vC, hC⟩) (fun q => q.k = dlayN m s (l.take (i + 1)) ∧ q.o = dmet m s (l.take (i + 1))) (.block ?_) ?_
    · refine .mid (X := Nat) (fun k' => [(0, .pointer (some ⟨b, 0, none⟩)), (3, .pointer (some ⟨b3, 0, none⟩)), (6, .int .u32 m), (7, .int .i64 s), (8, .slice (some ⟨bT, oT', none⟩) l.length cT), (9, .int .i64 (k' : Nat)), (10, .bool ot), (11, .int .i64 (i : Nat))]) (fun _ => Xb b4 x :: Eb b3 e :: DZ.H b wn ⟨.slice AL' D2.L.length cL', [(bT, Ch.cells lT 114)], vO, hO, vA, hA, vC, hC⟩) (fun k' => k' = dlayN m s (l.take (i + 1))) (.seq ((.region (.v (.move rfl) (.v (.move rfl) (.v (.indexAddr rfl rfl (by omega) (by omega)) (.v (.loadA (vs := y.cells) rfl (qr _ hsb) rfl) (.pc (v := .bool (lay y)) rfl rfl (fun w s => layered_ok w y) (.v (.move rfl) (.and (b2 := decide (y.od.m = m)) 61 69 8 8 rfl rfl (fun g1 => .v (.move rfl) (.v (.move rfl) (.v (.indexAddr rfl rfl (by omega) (by omega)) (.v (.fieldAddr rfl) (.v (.fieldAddr rfl) (.v (.load (v := .int .u32 y.od.m) rfl (qm _ hsb)) (.v (.move rfl) (.v (.eqi rfl rfl) (.nil ⟨rfl, rfl, rfl, rfl⟩))))))))) (.v (.move rfl) (.and (b2 := decide (y.od.s = s)) 71 79 8 8 rfl rfl (fun g2 => .v (.move rfl) (.v (.move rfl) (.v (.indexAddr rfl rfl (by omega) (by omega)) (.v (.fieldAddr rfl) (.v (.fieldAddr rfl) (.v (.load (v := .int .i64 y.od.s) rfl (qd _ hsb)) (.v (.move rfl) (.v (.eqi rfl rfl) (.nil ⟨rfl, rfl, rfl, rfl⟩))))))))) (.nil ?_))))))))))))) ?_
      · refine .cond rfl (fun h4 => ?_) (fun h4 => .skip ?_)
        · rw [if_pos h4] at hn
          refine .region (.v (.move rfl) (.v (.addE ((k + 1 : Nat) : Int) rfl rfl (by omega) (by omega)) (.v (.assign rfl) (.nil ?_))))
          exact ⟨k + 1, hn.symm, .cons rfl (.cons rfl (.cons rfl (.cons rfl (.cons rfl (.cons rfl (.cons rfl (.cons rfl (.nil _)))))))), fun _ s => s⟩
        · rw [if_neg (by intro hh; rw [show lyB m s y = false from h4] at hh; cases hh)] at hn
          exact ⟨k, hn.symm, .cons rfl (.cons rfl (.cons rfl (.cons rfl (.cons rfl (.cons rfl (.cons rfl (.cons rfl (.nil _)))))))), fun _ s => s⟩
      · rintro k' hk'
        try dsimp only at hk' ⊢
        refine .seq ((.region (.v (.move rfl) (.v (.move rfl) (.v (.indexAddr rfl rfl (by omega) (by omega)) (.v (.fieldAddr rfl) (.v (.fieldAddr rfl) (.v (.load (v := .int .i64 y.e.kind) rfl (qk _ hsb)) (.v (.eqi rfl rfl) (.v (.move rfl) (.and (b2 := (decide (s = 1) && decide (y.se = m)) || (decide (s ≠ 1) && decide (y.by_ = m))) 90 114 24 6 rfl rfl (fun g3 => .v (.move rfl) (.v (.eqi rfl rfl) (.v (.move rfl) (.and (b2 := decide (y.se = m)) 93 100 7 7 rfl rfl (fun g4 => .v (.move rfl) (.v (.move rfl) (.v (.indexAddr rfl rfl (by omega) (by omega)) (.v (.fieldAddr rfl) (.v (.load (v := .int .u32 y.se) rfl (qs _ hsb)) (.v (.move rfl) (.v (.eqi rfl rfl) (.nil ⟨rfl, rfl, rfl, rfl⟩)))))))) (.v (.move rfl) (.or (b2 := decide (s ≠ 1) && decide (y.by_ = m)) 102 113 11 4 rfl rfl (fun g5 => .v (.move rfl) (.v (.nei rfl rfl) (.v (.move rfl) (.and (b2 := decide (y.by_ = m)) 105 112 7 7 rfl rfl (fun g6 => .v (.move rfl) (.v (.move rfl) (.v (.indexAddr rfl rfl (by omega) (by omega)) (.v (.fieldAddr rfl) (.v (.load (v := .int .u32 y.by_) rfl (qb _ hsb)) (.v (.move rfl) (.v (.eqi rfl rfl) (.nil ⟨rfl, rfl, rfl, rfl⟩)))))))) (.nil ⟨rfl, rfl, rfl, rfl⟩))))) (.nil ⟨rfl, rfl, rfl, rfl⟩))))))) (.nil ?_))))))))))))
        have hmt : mtB m s y = (decide (y.e.kind = 3) && ((decide (s = 1) && decide (y.se = m)) || (decide (s ≠ 1) && decide (y.by_ = m)))) := by
          unfold mtB; by_cases hs1 : s = 1 <;> simp [hs1]
        rw [hmt] at hm
        refine .cond rfl (fun h5 => ?_) (fun h5 => .skip ?_)
        · rw [h5, Bool.or_true] at hm
          refine .region (.v (.assign rfl) (.nil ?_))
          exact ⟨⟨k', true⟩, ⟨hk', hm.symm⟩, .cons rfl (.cons rfl (.cons rfl (.cons rfl (.cons rfl (.cons rfl (.cons rfl (.cons rfl (.nil _)))))))), fun _ s => s⟩
        · rw [h5, Bool.or_false] at hm
          exact ⟨⟨k', ot⟩, ⟨hk', hm.symm⟩, .cons rfl (.cons rfl (.cons rfl (.cons rfl (.cons rfl (.cons rfl (.cons rfl (.cons rfl (.nil _)))))))), fun _ s => s⟩
    · rintro ⟨k', o'⟩ ⟨hk', ho'⟩
      dsimp only at hk' ho' ⊢
      subst hk'; subst ho'
      refine .region (.v (.move rfl) (.v (.addi rfl rfl (by omega)) (.v (.assign rfl) (.nil ?_))))
      exact ⟨i + 1, hil, by show l.length - (i + 1) < l.length - i; omega, .cons rfl (.cons rfl (.cons rfl (.cons rfl (.cons rfl (.cons rfl (.cons rfl (.cons rfl (.nil _)))))))), fun _ s => s⟩
  · have hiL : i = l.length := by omega
    subst hiL
    rw [List.take_length]
    refine .seq ((.region (.v (.move rfl) (.v (.move rfl) (.v (.nilCheck rfl) (.v (.fieldAddr rfl) (.v (.fieldAddr rfl) (.v (.load (v := .int .i64 wn.lay) rfl (.one rfl)) (.v (.geq rfl rfl) (.v (.move rfl) (.and (b2 := dmet m s l) 123 124 1 1 rfl rfl (fun g11 => .v (.move rfl) (.nil ⟨rfl, rfl, rfl, rfl⟩)) (.nil ?_))))))))))))
    refine .cond rfl (fun h7 => ?_) (fun h7 => .skip ?_)
    · rw [if_pos (by simpa using h7)]
      refine .region (.v (.move rfl) (.v (.move rfl) (.v (.fieldAddr rfl) (.v (.load (v := .int .u64 e.id) rfl (.one rfl)) (.v (.move rfl) ?_)))))
      refine .ef (.callT (DZ.H b wn ⟨.slice AL' D2.L.length cL', hL', vO, hO, vA, hA, vC, hC⟩) rfl rfl fun w s => dalert_ok w b wn hw D2 ⟨.slice AL' D2.L.length cL', hL', vO, hO, vA, hA, vC, hC⟩ hI2 (hB2.ok (by omega)) 2 m e.id _) ?_
      rintro _ _ ⟨_, ⟨z', rfl, hI'⟩, rfl⟩
      refine .nil ?_
      exact ⟨[], trivial, z'.H b wn, fun _ s => s.take, z', rfl, hI'⟩
    · rw [if_neg (by rintro ⟨a1, a2⟩; simp [a1, a2] at h7)]
      exact ⟨[], trivial, DZ.H b wn ⟨.slice AL' D2.L.length cL', hL', vO, hO, vA, hA, vC, hC⟩, fun _ s => s.take, _, rfl, hI2⟩
end Go.Proofs.Ytcbppikkoelimaa

/- Surveil: Add of the document. -/
namespace Go.Proofs.Ytcbppikkoelimaa
open Go.V
set_option linter.unusedVariables false
set_option linter.unusedSimpArgs false
set_option maxRecDepth 20000

structure DAd where
  i : Nat
  z : DZ
theorem DW.add_snoc (w : Wn) (D : DW) (l : List Ev) (e : Ev) : D.add w (l ++ [e]) = (D.add w l).ev w e := by simp [DW.add]
set_option maxHeartbeats 2000000 in
theorem dadd_ok (w : World) (b : Nat) (wn : Wn) (hw : wn.Can) (D : DW) (z : DZ) (hI : DI D z) (l : List Ev) (hB : ∀ i, i ≤ l.length → (D.add wn (l.take i)).OkN 0) (out : List Al) (hout : (D.add wn l).al = D.al ++ out) (A : Option Addr) (cap : Nat) (hA : Rd w (bl (z.H b wn)) A (erows l)) (hl : l.length ≤ 1000000000) :
    Does Try.prog 20 [.pointer (some ⟨b, 0, none⟩), .slice A l.length cap] (z.H b wn) w (fun v hs => ∃ z' h, hs = h ++ z'.H b wn ∧ DI (D.add wn l) z' ∧ AlOwn v out h) := by
  have oA := hI.a
  have hb0 := (hB 0 (Nat.zero_le _)).a
  rw [show D.add wn (l.take 0) = D from rfl] at hb0
  refine Does.less (Does.of (n := 69) Try.func20 rfl rfl rfl rfl ?_)
  obtain ⟨vL, hL, vO, hO, vA, hA', vC, hC⟩ := z
  dsimp only at oA
  obtain ⟨AA, cA, rfl⟩ := OwnS.slice oA
  refine .seq ((.region (.v (.assign rfl) (.nil ?_))))
  refine .seq ((.region (.v (.move rfl) (.v (.nilCheck rfl) (.v (.fieldAddr rfl) (.v (.load (v := .slice AA D.al.length cA) rfl (.one rfl)) (.v (.len rfl) (.v (.assign rfl) (.nil ?_)))))))))
  clear oA
  generalize hz : (⟨vL, hL, vO, hO, .slice AA D.al.length cA, hA', vC, hC⟩ : DZ) = z at hI hA ⊢
  clear hz
  refine .seq (.seq ((.region (.v (.assign rfl) (.nil ?_)))))
  refine .block (.loop (X := DAd) (fun x => [(0, .pointer (some ⟨b, 0, none⟩)), (1, .slice A l.length cap), (5, .int .i64 D.al.length), (6, .int .i64 x.i)]) (fun x => x.z.H b wn) (fun x => x.i ≤ l.length ∧ DI (D.add wn (l.take x.i)) x.z) (fun x => l.length - x.i) ⟨0, z⟩ ⟨Nat.zero_le _, hI⟩ (.cons rfl (.cons rfl (.cons rfl (.cons rfl (.nil _))))) (fun _ s => s) ?_)
  clear hI
  rintro ⟨i, ⟨vL, hL, vO, hO, vA, hA', vC, hC⟩⟩ ⟨hi, hI⟩
  dsimp only at hi hI ⊢
  refine .seq (.seq ((.region (.v (.move rfl) (.v (.move rfl) (.v (.len rfl) (.v (.lss rfl rfl) (.nil ?_))))))))
  refine .cond_dec rfl (fun h1 => .skip ?_) (fun h1 => .exit ?_)
  · have hil : i < l.length := by omega
    obtain ⟨ba, oa, rfl, hc⟩ := Rd.recs Ev.cells 13 (fun _ => rfl) hA (by omega) (by omega)
    have qr := fun hs' => recAt Ev.cells 13 (fun _ => rfl) (z := (i : Int)) (hc hs') hil
    have qk := fun hs' => fldAt Ev.cells 13 (fun _ => rfl) (z := (i : Int)) (hc hs') hil 1 (v := .int .i64 l[i].kind) rfl
    have hsn : D.add wn (l.take (i + 1)) = (D.add wn (l.take i)).ev wn l[i] := by rw [List.take_succ_eq_append_getElem hil, DW.add_snoc]
    have hOk := hB i hi
    generalize l[i] = e at qr qk hsn
    generalize D.add wn (l.take i) = D1 at hI hOk hsn
    refine .mid (X := DZ) (fun _ => [(0, .pointer (some ⟨b, 0, none⟩)), (1, .slice (some ⟨ba, oa, none⟩) l.length cap), (5, .int .i64 D.al.length), (6, .int .i64 (i : Nat))]) (fun z => z.H b wn) (fun z => DI (D1.ev wn e) z) (.block (.seq ((.region (.v (.move rfl) (.v (.move rfl) (.v (.indexAddr rfl rfl (by omega) (by omega)) (.v (.fieldAddr rfl) (.v (.load (v := .int .i64 e.kind) rfl (qk _)) (.nil ?_)))))))))) ?_
    · refine .block (.seq ((.region (.v (.eqi rfl rfl) (.v (.assign rfl) (.nil ?_))))))
      unfold DW.ev
      refine .cond_dec rfl (fun h2 => ?_) (fun h2 => ?_)
      · rw [if_pos h2]
        refine .region (.v (.move rfl) (.v (.move rfl) (.v (.move rfl) (.v (.indexAddr rfl rfl (by omega) (by omega)) (.v (.loadA (vs := e.cells) rfl (qr _) rfl) ?_)))))
        refine .ef (.callT (DZ.H b wn ⟨vL, hL, vO, hO, vA, hA', vC, hC⟩) rfl rfl fun w s => dacked_ok w b wn hw D1 ⟨vL, hL, vO, hO, vA, hA', vC, hC⟩ hI hOk e) ?_
        rintro _ _ ⟨_, ⟨z', rfl, hI'⟩, rfl⟩
        refine .nil ?_
        exact ⟨z', hI', .cons rfl (.cons rfl (.cons rfl (.cons rfl (.nil _)))), fun _ s => s.take⟩
      · rw [if_neg h2]
        refine .seq ((.region (.v (.eqi rfl rfl) (.v (.assign rfl) (.nil ?_)))))
        refine .cond_dec rfl (fun h3 => ?_) (fun h3 => ?_)
        · rw [if_pos h3]
          refine .region (.v (.move rfl) (.v (.move rfl) (.v (.move rfl) (.v (.indexAddr rfl rfl (by omega) (by omega)) (.v (.loadA (vs := e.cells) rfl (qr _) rfl) ?_)))))
          refine .ef (.callT (DZ.H b wn ⟨vL, hL, vO, hO, vA, hA', vC, hC⟩) rfl rfl fun w s => dtrades_ok w b wn hw D1 ⟨vL, hL, vO, hO, vA, hA', vC, hC⟩ hI hOk e) ?_
          rintro _ _ ⟨_, ⟨z', rfl, hI'⟩, rfl⟩
          refine .nil ?_
          exact ⟨z', hI', .cons rfl (.cons rfl (.cons rfl (.cons rfl (.nil _)))), fun _ s => s.take⟩
        · rw [if_neg h3]
          refine .seq ((.region (.v (.eqi rfl rfl) (.v (.assign rfl) (.nil ?_)))))
          refine .cond_dec rfl (fun h4 => ?_) (fun h4 => ?_)
          · rw [if_pos h4]
            refine .region (.v (.move rfl) (.v (.move rfl) (.v (.move rfl) (.v (.indexAddr rfl rfl (by omega) (by omega)) (.v (.loadA (vs := e.cells) rfl (qr _) rfl) ?_)))))
            refine .ef (.callT (DZ.H b wn ⟨vL, hL, vO, hO, vA, hA', vC, hC⟩) rfl rfl fun w s => dcancelled_ok w b wn hw D1 ⟨vL, hL, vO, hO, vA, hA', vC, hC⟩ hI hOk e) ?_
            rintro _ _ ⟨_, ⟨z', rfl, hI'⟩, rfl⟩
            refine .nil ?_
            exact ⟨z', hI', .cons rfl (.cons rfl (.cons rfl (.cons rfl (.nil _)))), fun _ s => s.take⟩
          · rw [if_neg h4]
            obtain ⟨oL, oO, oA, oc⟩ := hI
            dsimp only at oL oO oA oc ⊢
            obtain ⟨AL, cL, rfl⟩ := OwnS.slice oL
            have bL := hOk.l
            refine (.drawQ 14 [0, 1, 2, 3, 4, 5, 6, 7, 8, 9, 10, 11, 12, 13, 14] [Db b wn (.slice AL D1.L.length cL) vO vA vC] (by intro y hy; simp at hy ⊢; exact .inl hy) (by kernel_rfl) (by kernel_rfl) ?_)
            refine .v (fun _ f => .move rfl) (.v (fun _ f => .move rfl) (.v (fun _ f => .nilCheck rfl) (.v (fun _ f => .fieldAddr rfl) (.v (fun _ f => .load (v := .slice AL D1.L.length cL) rfl (.one (hb := .sub f) rfl)) (.v (fun _ f => .move rfl) (.v (fun _ f => .move rfl) (.v (fun _ f => .indexAddr rfl rfl (by omega) (by omega)) (.v (fun hs' f => .loadA (vs := e.cells) rfl (qr hs') rfl) (.v (fun _ f => .build (out := (⟨e, 0, 0, 0, 0, false, do0⟩ : DSn).cells) rfl rfl) ?_)))))))))
            refine .ef (.buildSlice (out := (⟨e, 0, 0, 0, 0, false, do0⟩ : DSn).cells) rfl (by decide) rfl rfl) (fun v hs' ⟨_, _, e⟩ f => by subst e; exact fun y hy => List.mem_cons_of_mem _ (f hy)) ?_
            rintro _ _ ⟨bn, rfl, rfl⟩
            refine .ef (.append (c := D1.L.length) (k := 1) (vs := dsrows D1.L) (news := (⟨e, 0, 0, 0, 0, false, do0⟩ : DSn).cells) (h := hL) rfl rfl oL TakeI.out (fun w' s => Src.of_at s .whole rfl) rfl rfl (by omega) (by omega)) (fun v hs' ⟨_, _, e⟩ f => by subst e; intro y hy; simp at hy; subst hy; simp) ?_
            rintro vL' _ ⟨hL', oL', rfl⟩
            obtain ⟨AL', cL', rfl⟩ := OwnS.slice oL'
            refine .v (fun _ f => .nilCheck rfl) (.v (fun _ f => .fieldAddr rfl) (.st (.storeL (l' := dcells wn (.slice AL' (D1.L.length + 1) cL') vO vA vC) rfl rfl rfl) (.nil ?_)))
            have oL2 := LOwn.snoc oL'
            have eL : D1.L.length + 1 = (D1.L ++ [(⟨e, 0, 0, 0, 0, false, do0⟩ : DSn)]).length := by simp
            rw [eL]
            exact ⟨⟨.slice AL' (D1.L ++ [(⟨e, 0, 0, 0, 0, false, do0⟩ : DSn)]).length cL', hL', vO, hO, vA, hA', vC, hC⟩, ⟨oL2, oO, oA, oc⟩, .cons rfl (.cons rfl (.cons rfl (.cons rfl (.nil _)))), fun _ s => s.take⟩
    · rintro z' hI'
      rw [← hsn] at hI'
      refine .region (.v (.move rfl) (.v (.addi rfl rfl (by omega)) (.v (.assign rfl) (.nil ?_))))
      exact ⟨⟨i + 1, z'⟩, ⟨hil, hI'⟩, by show l.length - (i + 1) < l.length - i; omega, .cons rfl (.cons rfl (.cons rfl (.cons rfl (.nil _)))), fun _ s => s⟩
  · have hiL : i = l.length := by omega
    subst hiL
    have hOk := hB l.length (Nat.le_refl _)
    rw [List.take_length] at hI hOk
    obtain ⟨oL, oO, oA, oc⟩ := hI
    have bA := hOk.a
    dsimp only at oL oO oA oc ⊢
    generalize D.add wn l = D1 at oL oO oA oc hout bA ⊢
    obtain ⟨AA, cA, rfl⟩ := OwnS.slice oA
    have hol : D1.al.length = D.al.length + out.length := by rw [hout, List.length_append]
    have hcap := (OwnS.cap_ oA).2
    refine .seq ((.region (.ef (.buildSlice (out := []) rfl (by decide) rfl rfl) ?_)))
    rintro _ _ ⟨b0, rfl, rfl⟩
    refine .v (.move rfl) (.v (.nilCheck rfl) (.v (.fieldAddr rfl) (.v (.load (v := .slice AA D1.al.length cA) rfl (.one rfl)) (.v (.move rfl) (.v (.slLo rfl rfl (by omega) (by omega)) ?_)))))
    have ed : (alrows D1.al).drop (D.al.length * 5) = alrows out := by
      unfold alrows
      rw [← rows_drop Al.cells 5 (fun _ => rfl), hout, List.drop_left]
    refine .appT (h := [(b0, .cells [] 46)]) (vs := []) (c := 0) (k := out.length) (news := alrows out) rfl rfl ⟨rfl, .inr ⟨b0, 0, 0, [], rfl, rfl, Nat.le_refl _, Nat.le_refl _, rfl⟩⟩ (fun w s => by
      have := Rd.cut (OwnS.rd oA s (no := []) (fun y hy => by simp [hy]) (by simp)) (k := D.al.length) (cap := cA) (m := 5) (by rw [alrows_length]; omega)
      rw [ed] at this
      have h2 := this.src (P := Try.prog) (m := 5) (k := out.length) (c := cA - D.al.length) (by rw [alrows_length]) (by omega)
      have e9 : D1.al.length - D.al.length = out.length := by omega
      rw [Int.toNat_natCast, e9]; exact h2) (by rw [alrows_length]) (alrows_ones _) (by omega) (by omega) ?_
    intro v8 h8 o8
    refine .v (.assign rfl) (.nil ?_)
    rw [Nat.zero_add, List.nil_append] at o8
    exact .ret ⟨[_], ⟨rfl, trivial⟩, h8 ++ DZ.H b wn ⟨vL, hL, vO, hO, .slice AA D1.al.length cA, hA', vC, hC⟩, fun _ s => s.take, ⟨vL, hL, vO, hO, .slice AA D1.al.length cA, hA', vC, hC⟩, h8, rfl, ⟨oL, oO, oA, oc⟩, o8⟩
end Go.Proofs.Ytcbppikkoelimaa
