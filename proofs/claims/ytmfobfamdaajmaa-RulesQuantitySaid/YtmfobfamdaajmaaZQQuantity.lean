/- The law RulesQuantity: its walk. -/
import Derived.Test.YtmfobfamdaajmaaZQCounted
import Derived.Test.YtmfobfamdaajmaaMG
namespace Go.Proofs.Ytmfobfamdaajmaa
open Go.V
set_option linter.unusedVariables false
set_option linter.unusedSimpArgs false

structure QS where
  B : Bk
  v1 : Value
  v2 : Value
  k1 : Hp
  k2 : Hp
  al : List Lv
  va : Value
  ha : Hp
abbrev QS.H (x : QS) (b : Nat) : Hp := (Tb b (Bc x.B x.v1 x.v2) :: (x.k1 ++ x.k2)) ++ x.ha
structure QS.I (x : QS) : Prop where
  vl : x.B.Vl
  s1 : Side x.v1 x.B.bs x.k1
  s2 : Side x.v2 x.B.ss x.k2
  acc : Acc x.B x.al
  own : LOwn x.va x.al x.ha
set_option maxRecDepth 10000 in
theorem RulesQuantity_ok (w : World) (cc cm : Int) (A : Option Addr) (len cap : Nat) (l : List Cm) (hl : len = l.length) (hA : Rd w [] A (crows l)) (hb : len ≤ 1954687338211) (hw : ∀ c ∈ l, c.wf) :
    Is Try.prog 6 [.agg ⟨[.int .i64 cc, .int .i64 cm]⟩, .slice A len cap] w (.bool true) := by
  refine Does.pure (Does.of (n := 93) Try.func6 rfl rfl rfl rfl ?_)
  refine .seq ((.region (.nw (.box rfl rfl) fun b2 => (.v (.assign rfl) (.nil ?_)))))
  refine .seq ((.region (.v (.loadA (vs := [.int .i64 cc, .int .i64 cm]) rfl .whole rfl) ?_)))
  refine .ef (.call0 rfl rfl fun w s => begun_ok w cc cm) ?_
  rintro _ _ ⟨_, hN, rfl⟩
  by_cases hc : Cfg cc cm
  case neg =>
    rw [if_neg hc] at hN
    obtain ⟨rfl, rfl⟩ := hN
    refine .v (.move rfl) (.v (.extract rfl rfl) (.v (.extract rfl rfl) (.v (.assign rfl) (.v (.assign rfl) (.nil ?_)))))
    refine .seq (.seq ((.region (.v (.move rfl) (.v (.eql_ptr_nil rfl rfl) (.v (.move rfl) (.or (b2 := false) 21 23 2 2 rfl rfl (fun g1 => absurd g1 (by simp)) (.nil ?_))))))))
    refine .cond rfl (fun _ => ?_) (fun h => absurd h (by simp))
    refine .seq ((.region (.v (.move rfl) (.v (.assign rfl) (.nil ?_)))))
    exact .ret ⟨[_], ⟨rfl, trivial⟩, rfl⟩
  rw [if_pos hc] at hN
  obtain ⟨b, rfl, rfl⟩ := hN
  refine .v (.move rfl) (.v (.extract rfl rfl) (.v (.extract rfl rfl) (.v (.assign rfl) (.v (.assign rfl) (.nil ?_)))))
  refine .seq (.seq ((.region (.v (.move rfl) (.v (.eql_ptr_nil rfl rfl) (.v (.move rfl) (.or 21 23 2 2 rfl rfl (fun g1 => .v (.move rfl) (.v (.not rfl) (.nil ⟨rfl, rfl, rfl, rfl⟩))) (.nil ?_))))))))
  refine .cond rfl (fun h => absurd h (by simp)) (fun _ => .skip ?_)
  refine .seq ((.region (.ef (.buildSlice (out := []) rfl (by decide) rfl rfl) ?_)))
  rintro _ _ ⟨ba0, rfl, rfl⟩
  refine .v (.assign rfl) (.nil ?_)
  refine .seq (.seq ((.region (.v (.assign rfl) (.nil ?_)))))
  refine .block (.loop (X := Nat × QS) (fun x => [(1, .slice A len cap), (5, .pointer (some ⟨b, 0, none⟩)), (7, x.2.va), (8, .int .i64 x.1)]) (fun x => x.2.H b) (fun x => x.1 ≤ len ∧ x.2.al.length ≤ x.1 ∧ x.2.I) (fun x => len - x.1)
    ⟨0, newB cc cm, .slice none 0 0, .slice none 0 0, [], [], [], .slice (some ⟨ba0, 0, none⟩) 0 0, [(ba0, .cells [] 61)]⟩ ⟨by simp, by simp, newB_vl hc, OwnS.nil _ _, OwnS.nil _ _, ⟨⟨by simp [lids], by simp, fun i h => by simp [Bk.amt, newB, amt] at h, fun i => by simp [Bk.amt, newB, amt]⟩, by simp [lids]⟩, ⟨rfl, .inr ⟨ba0, 0, 0, [], rfl, rfl, by simp, by simp, by simp [lrows]⟩⟩⟩ (.cons rfl (.cons rfl (.cons rfl (.cons rfl (.nil _))))) (fun _ s => Sat.take (pre := (Tb b (Bc (newB cc cm) (.slice none 0 0) (.slice none 0 0)) :: ([] ++ [])) ++ [(ba0, .cells [] 61)]) s) ?_)
  rintro ⟨i, B, v1, v2, k1, k2, al, va, ha⟩ ⟨hi, hai, hI, h1, h2, hacc, hown⟩
  dsimp only at hi hai hI h1 h2 hacc hown ⊢
  refine .seq (.seq ((.region (.v (.move rfl) (.v (.move rfl) (.v (.len rfl) (.v (.lss rfl rfl) (.nil ?_))))))))
  refine .cond_dec rfl (fun g2 => .skip ?_) (fun g2 => .exit ?_)
  · have hil : i < l.length := by omega
    obtain ⟨ba, oa, rfl, hat⟩ := Rd.cm hA (by omega)
    have hcw := hw _ (List.getElem_mem hil)
    have hat := hat i hil
    generalize l[i] = c at hat hcw
    have hI' := does_vl hI hcw
    have hel := does_len hI.inv hcw
    obtain ⟨al', hcs, hacc', hal'⟩ := does_acc hI hcw hacc
    refine .seq (.block (.seq ((.region (.v (.move rfl) (.v (.move rfl) (.v (.move rfl) (.v (.move rfl) (.v (.indexAddr rfl rfl (by omega) (by omega)) (.v (.loadA (vs := c.cells) rfl (hat _ _ (by simp [bl])) rfl) ?_))))))))))
    refine .ef (.callT (Tb b (Bc B v1 v2) :: (k1 ++ k2)) rfl rfl (fun w s => Does.call_Do w b B hI.inv.ok c hcw.2.1 hcw.2.2 v1 v2 k1 k2 h1 h2)) ?_
    generalize B.does c = D at hI' hel hcs hacc' ⊢
    obtain ⟨B', evs⟩ := D
    rintro _ _ ⟨_, ⟨A', c', v1', v2', k1', k2', ke, rfl, rfl, h1', h2', hE⟩, rfl⟩
    dsimp only at hI' hel hcs hacc' h1' h2' hE ⊢
    refine .ef (.callT ha rfl rfl (fun w s => counted_ok w va al ha hown A' c' evs (OwnS.rd hE s (fun p hp => by simp [hp]) (Sat.disj (Sat.take (pre := ke ++ ha) s))) al' hcs (by omega))) ?_
    rintro _ _ ⟨h', ⟨va', rfl, hown'⟩, rfl⟩
    refine .v (.move rfl) (.v (.extract rfl rfl) (.v (.extract rfl rfl) (.v (.assign rfl) (.v (.assign rfl) (.nil ?_)))))
    refine .keep ((Tb b (Bc B' v1' v2') :: (k1' ++ k2')) ++ h') ?_
    obtain ⟨A1, c1, rfl⟩ := OwnS.sl h1'
    obtain ⟨A2, c2, rfl⟩ := OwnS.sl h2'
    obtain ⟨Al, cl, rfl⟩ := OwnS.sl hown'
    have hlen := hI'.len
    have hcapb := hI'.inv.hi
    refine .seq (.seq ((.region (.v (.move rfl) (.v (.not rfl) (.nil ?_))))))
    refine .cond rfl (fun h => absurd h (by simp)) (fun _ => .skip ?_)
    refine .seq ((.region (.v (.assign rfl) (.nil ?_))))
    refine .seq (.seq ((.region (.v (.assign rfl) (.nil ?_)))))
    refine .block (.loop (X := Nat) (fun j => [(1, .slice (some ⟨ba, oa, none⟩) len cap), (5, .pointer (some ⟨b, 0, none⟩)), (7, .slice Al al'.length cl), (8, .int .i64 i), (9, .int .i64 (stand B' (al'.take j))), (10, .int .i64 j)]) (fun _ => (Tb b (Bc B' (.slice A1 B'.bs.length c1) (.slice A2 B'.ss.length c2)) :: (k1' ++ k2')) ++ h')
      (fun j => j ≤ al'.length) (fun j => al'.length - j) 0 (Nat.zero_le _) (.cons rfl (.cons rfl (.cons rfl (.cons rfl (.cons rfl (.cons rfl (.nil _))))))) (fun _ s => s) ?_)
    intro j hj
    refine .seq (.seq ((.region (.v (.move rfl) (.v (.move rfl) (.v (.len rfl) (.v (.lss rfl rfl) (.nil ?_))))))))
    refine .cond_dec rfl (fun h4 => .skip ?_) (fun h4 => .exit ?_)
    · have hjl : j < al'.length := by omega
      have hst := stand_take (B := B') hjl
      have hstb : stand B' (al'.take j) ≤ j := by
        unfold stand
        refine Nat.le_trans (List.length_filter_le _ _) ?_
        rw [List.length_take]; omega
      obtain ⟨o, sd, hfv, q1, q2, q3, q4, q5, q6⟩ := fnd_acc hI' hacc' (List.getElem_mem hjl)
      obtain ⟨bl_, ol, ll, rfl, -, rfl, hcc, hcap, -⟩ := hown'.some_ (by omega)
      have hld : ∀ (k' : Nat) (v : Value) (w0 : World) (own : List Nat) (hs : Hp), [(bl_, Ch.cells ll 61)] ⊆ hs → k' < 5 → (al'[j].cells)[k']? = some v → At w0 own hs ⟨bl_, ol + j * 5 + k', none⟩ [v] := fun k' v w0 own hs hh hk' hv => hown'.ld hh hjl hk' hv
      generalize al'[j] = x at hst hfv q1 q2 q5 q6 hld
      refine .seq (.block (.seq ((.region (.v (.move rfl) (.v (.move rfl) (.v (.move rfl) (.v (.indexAddr rfl rfl (by omega) (by omega)) (.v (.fieldAddr rfl) (.v (.load (v := .int .u64 x.id) rfl (hld 0 _ _ _ _ (fun p hp => by simp at hp ⊢; simp [hp]) (by omega) rfl)) ?_))))))))))
      refine .pc (v := .tuple ⟨[.agg ⟨o.cells⟩, .int .i64 sd, .bool (fnd x.id B'.bs B'.ss).isSome]⟩) rfl rfl (fun w s => by rw [← hfv]; exact Find_ok w b B'.cap B'.meet B'.high B'.seq x.id A1 A2 c1 c2 B'.bs B'.ss (Rd.chunk s (T := 67) (l := Bc B' (.slice A1 B'.bs.length c1) (.slice A2 B'.ss.length c2)) (by simp) (fun j v hv => by rw [Nat.zero_add]; exact hv)) (OwnS.rd h1' s (no := []) (fun p hp => by simp [hp]) (by simp)) (OwnS.rd h2' s (no := []) (fun p hp => by simp [hp]) (by simp)) (by omega) (by omega)) ?_
      generalize (fnd x.id B'.bs B'.ss).isSome = rr at *
      refine .v (.move rfl) (.v (.extract rfl rfl) (.v (.extract rfl rfl) (.v (.extract rfl rfl) (.nw .alloc fun b11 => (.st (.sw rfl rfl) (.v (.assign rfl) (.v (.assign rfl) (.nil ?_))))))))
      refine .mid (X := Unit) (fun _ => [(1, .slice (some ⟨ba, oa, none⟩) len cap), (5, .pointer (some ⟨b, 0, none⟩)), (7, .slice (some ⟨bl_, ol, none⟩) al'.length cl), (8, .int .i64 i), (9, .int .i64 (stand B' (al'.take (j + 1)))), (10, .int .i64 j), (11, .pointer (some ⟨b11, 0, none⟩))]) (fun _ => (b11, .cells o.cells 53) :: ((Tb b (Bc B' (.slice A1 B'.bs.length c1) (.slice A2 B'.ss.length c2)) :: (k1' ++ k2')) ++ [(bl_, Ch.cells ll 61)])) (fun _ => True) ?_ ?_
      · refine .seq ((.region (.v (.move rfl) (.nil ?_))))
        cases rr with
        | true =>
          rw [if_pos rfl] at hst
          refine .cond rfl (fun _ => ?_) (fun h => absurd h (by simp))
          refine .region (.v (.move rfl) (.v (.addE (stand B' (al'.take (j + 1)) : Int) rfl rfl (by rw [hst]; omega) (by omega)) (.v (.assign rfl) (.nil ?_))))
          exact ⟨(), trivial, .cons rfl (.cons rfl (.cons rfl (.cons rfl (.cons rfl (.cons rfl (.cons rfl (.nil _))))))), fun _ s => s⟩
        | false =>
          rw [if_neg (by simp)] at hst
          refine .cond rfl (fun h => absurd h (by simp)) (fun _ => .skip ?_)
          rw [show stand B' (al'.take (j + 1)) = stand B' (al'.take j) from hst]
          exact ⟨(), trivial, .cons rfl (.cons rfl (.cons rfl (.cons rfl (.cons rfl (.cons rfl (.cons rfl (.nil _))))))), fun _ s => s⟩
      · rintro ⟨⟩ -
        refine .seq ((.drawK _ (fun _ h => h) (by kernel_rfl) (by kernel_rfl) ?_))
        refine .v (fun _ f => .move rfl) (.v (fun _ f => .move rfl) (.v (fun _ f => .indexAddr rfl rfl (by omega) (by omega)) (.v (fun _ f => .fieldAddr rfl) (.v (fun _ f => .load (v := .int .u64 x.tr) rfl (hld 2 _ _ _ _ (fun p hp => f (by simp at hp ⊢; simp [hp])) (by omega) rfl)) (.v (fun _ f => .move rfl) (.v (fun _ f => .move rfl) (.v (fun _ f => .indexAddr rfl rfl (by omega) (by omega)) (.v (fun _ f => .fieldAddr rfl) (.v (fun _ f => .load (v := .int .u64 x.ca) rfl (hld 3 _ _ _ _ (fun p hp => f (by simp at hp ⊢; simp [hp])) (by omega) rfl)) ?_)))))))))
        refine .v (fun _ f => .addU (x.tr + x.ca) rfl rfl rfl (by omega)) (.v (fun _ f => .fieldAddr rfl) (.v (fun _ f => .load (v := .int .u64 o.v) rfl (.one (hb := .sub f) rfl)) (.v (fun _ f => .addU (x.tr + x.ca + o.v) rfl rfl rfl (by omega)) (.v (fun _ f => .fieldAddr rfl) (.v (fun _ f => .load (v := .int .u64 o.hd) rfl (.one (hb := .sub f) rfl)) (.v (fun _ f => .addU (x.tr + x.ca + o.v + o.hd) rfl rfl rfl (by omega)) (.v (fun _ f => .move rfl) (.v (fun _ f => .move rfl) (.v (fun _ f => .indexAddr rfl rfl (by omega) (by omega)) (.v (fun _ f => .fieldAddr rfl) (.v (fun _ f => .load (v := .int .u64 x.qty) rfl (hld 1 _ _ _ _ (fun p hp => f (by simp at hp ⊢; simp [hp])) (by omega) rfl)) (.v (fun _ f => .nei rfl rfl) (.nil ?_)))))))))))))
        refine .cond_dec rfl (fun h => absurd q5 h) (fun _ => .skip ?_)
        refine .region (.v (.move rfl) (.v (.addi rfl rfl (by omega)) (.v (.assign rfl) (.nil ?_))))
        exact ⟨j + 1, by omega, by omega, .cons rfl (.cons rfl (.cons rfl (.cons rfl (.cons rfl (.cons rfl (.nil _)))))), fun _ s => Sat.take (pre := (Tb b (Bc B' (.slice A1 B'.bs.length c1) (.slice A2 B'.ss.length c2)) :: (k1' ++ k2')) ++ [(bl_, Ch.cells ll 61)]) s⟩
    · have htake : al'.take j = al' := List.take_of_length_le (by omega)
      rw [htake, stand_len hI' hacc']
      refine .seq ((.region (.v (.move rfl) (.v (.move rfl) (.pc rfl rfl (fun w s => Len_is w b B'.cap B'.meet B'.high B'.seq A1 A2 B'.bs.length B'.ss.length c1 c2 (Rd.chunk s (T := 67) (l := Bc B' (.slice A1 B'.bs.length c1) (.slice A2 B'.ss.length c2)) (by simp) (fun j v hv => by rw [Nat.zero_add]; exact hv)) (by omega) (by omega)) (.v (.nei rfl rfl) (.nil ?_)))))))
      refine .cond_dec rfl (fun h => absurd (by omega) h) (fun _ => .skip ?_)
      refine .region (.v (.move rfl) (.v (.addi rfl rfl (by omega)) (.v (.assign rfl) (.nil ?_))))
      exact ⟨⟨i + 1, B', _, _, k1', k2', al', _, h'⟩, ⟨by dsimp only; omega, by dsimp only; omega, hI', h1', h2', hacc', hown'⟩, by dsimp only; omega, .cons rfl (.cons rfl (.cons rfl (.cons rfl (.nil _)))), fun _ s => s⟩
  · refine .seq ((.region (.v (.assign rfl) (.nil ?_))))
    exact .ret ⟨[_], ⟨rfl, trivial⟩, rfl⟩
end Go.Proofs.Ytmfobfamdaajmaa
