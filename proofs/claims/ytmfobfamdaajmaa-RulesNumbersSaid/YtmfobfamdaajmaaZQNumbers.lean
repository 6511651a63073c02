/- The law RulesNumbers: its walk. -/
import Derived.Test.YtmfobfamdaajmaaME
namespace Go.Proofs.Ytmfobfamdaajmaa
open Go.V
set_option linter.unusedVariables false
set_option linter.unusedSimpArgs false

def crows (l : List Cm) : List Value := l.flatMap Cm.cells
theorem crows_length (l : List Cm) : (crows l).length = l.length * 9 := flatMap_length _ 9 (fun _ => rfl) l
theorem crows_get (l : List Cm) (i j : Nat) (hi : i < l.length) (hj : j < 9) : (crows l)[i * 9 + j]? = (l[i].cells)[j]? := flatMap_get _ 9 (fun _ => rfl) l i j hi hj
theorem Rd.cm {w : World} {no : List Nat} {A : Option Addr} {l : List Cm} (h : Rd w no A (crows l)) (hn : 0 < l.length) :
    ∃ b o, A = some ⟨b, o, none⟩ ∧ ∀ (i : Nat) (hi : i < l.length) (own : List Nat) (hs : Hp), (∀ x ∈ own, x ∈ no) → At w own hs ⟨b, o + i * 9, none⟩ l[i].cells := by
  obtain ⟨b, o, e, hb, hc⟩ := h.base (by rw [crows_length]; omega)
  refine ⟨b, o, e, fun i hi own hs hsub => At.old (fun j v hv => ?_) (fun hx => hb (hsub _ hx))⟩
  have hj : j < 9 := (List.getElem?_eq_some_iff.1 hv).1
  rw [add_none, Nat.add_assoc]
  exact hc (i * 9 + j) v (by rw [crows_get l i j hi hj]; exact hv)
theorem drop_at {α : Type} {l : List α} {j : Nat} (hj : j < l.length) : l.drop j = l[j] :: l.drop (j + 1) := List.drop_eq_getElem_cons hj
structure N3 where
  j : Nat
  s : Int
  h : Int
structure BS where
  i : Nat
  B : Bk
  v1 : Value
  v2 : Value
  k1 : Hp
  k2 : Hp
abbrev BS.H (x : BS) (b : Nat) : Hp := Tb b (Bc x.B x.v1 x.v2) :: (x.k1 ++ x.k2)
def BS.I (x : BS) (n : Nat) : Prop := x.i ≤ n ∧ x.B.Inv ∧ Side x.v1 x.B.bs x.k1 ∧ Side x.v2 x.B.ss x.k2
set_option maxRecDepth 10000 in
theorem RulesNumbers_ok (w : World) (cc cm : Int) (A : Option Addr) (len cap : Nat) (l : List Cm) (hl : len = l.length) (hA : Rd w [] A (crows l)) (hb : len ≤ 4503599627370496) (hw : ∀ c ∈ l, c.wf) :
    Is Try.prog 4 [.agg ⟨[.int .i64 cc, .int .i64 cm]⟩, .slice A len cap] w (.bool true) := by
  refine Does.pure (Does.of (n := 82) Try.func4 rfl rfl rfl rfl ?_)
  refine .seq ((.region (.nw (.box rfl rfl) fun b2 => (.v (.assign rfl) (.nil ?_)))))
  refine .seq ((.region (.v (.loadA (vs := [.int .i64 cc, .int .i64 cm]) rfl .whole rfl) ?_)))
  refine .ef (.call0 rfl rfl fun w s => begun_ok w cc cm) ?_
  rintro _ _ ⟨_, hN, rfl⟩
  by_cases hc : Cfg cc cm
  case neg =>
    rw [if_neg hc] at hN
    obtain ⟨rfl, rfl⟩ := hN
    refine .v (.move rfl) (.v (.extract rfl rfl) (.v (.extract rfl rfl) (.v (.assign rfl) (.v (.assign rfl) (.nil ?_)))))
    refine .seq (.seq ((.region (.v (.move rfl) (.v (.eql_ptr_nil rfl rfl) (.v (.move rfl) (.or (b2 := false) 20 22 2 2 rfl rfl (fun g1 => absurd g1 (by simp)) (.nil ?_))))))))
    refine .cond rfl (fun _ => ?_) (fun h => absurd h (by simp))
    refine .seq ((.region (.v (.move rfl) (.v (.assign rfl) (.nil ?_)))))
    exact .ret ⟨[_], ⟨rfl, trivial⟩, rfl⟩
  rw [if_pos hc] at hN
  obtain ⟨b, rfl, rfl⟩ := hN
  refine .v (.move rfl) (.v (.extract rfl rfl) (.v (.extract rfl rfl) (.v (.assign rfl) (.v (.assign rfl) (.nil ?_)))))
  refine .seq (.seq ((.region (.v (.move rfl) (.v (.eql_ptr_nil rfl rfl) (.v (.move rfl) (.or 20 22 2 2 rfl rfl (fun g1 => .v (.move rfl) (.v (.not rfl) (.nil ⟨rfl, rfl, rfl, rfl⟩))) (.nil ?_))))))))
  refine .cond rfl (fun h => absurd h (by simp)) (fun _ => .skip ?_)
  refine .seq ((.region (.v (.assign rfl) (.v (.assign rfl) (.nil ?_)))))
  refine .seq (.seq ((.region (.v (.assign rfl) (.nil ?_)))))
  refine .block (.loop (X := BS) (fun x => [(1, .slice A len cap), (5, .pointer (some ⟨b, 0, none⟩)), (7, .int .u64 x.B.seq), (8, .int .u64 x.B.high), (9, .int .i64 x.i)]) (fun x => x.H b) (fun x => x.I len) (fun x => len - x.i)
    ⟨0, newB cc cm, .slice none 0 0, .slice none 0 0, [], []⟩ ⟨by simp, newB_inv hc, OwnS.nil _ _, OwnS.nil _ _⟩ (.cons rfl (.cons rfl (.cons rfl (.cons rfl (.cons rfl (.nil _)))))) (fun _ s => s.take) ?_)
  rintro ⟨i, B, v1, v2, k1, k2⟩ ⟨hi, hI, h1, h2⟩
  dsimp only at hi hI h1 h2 ⊢
  refine .seq (.seq ((.region (.v (.move rfl) (.v (.move rfl) (.v (.len rfl) (.v (.lss rfl rfl) (.nil ?_))))))))
  refine .cond_dec rfl (fun g2 => .skip ?_) (fun g2 => .exit ?_)
  · have hil : i < l.length := by omega
    obtain ⟨ba, oa, rfl, hat⟩ := Rd.cm hA (by omega)
    have hcw := hw _ (List.getElem_mem hil)
    have hat := hat i hil
    generalize l[i] = c at hat hcw
    obtain ⟨hnum, hhi⟩ := does_num hI hcw
    have hI' := does_inv hI hcw
    have hel := does_len hI hcw
    refine .seq (.block (.seq ((.region (.v (.move rfl) (.v (.move rfl) (.v (.move rfl) (.v (.indexAddr rfl rfl (by omega) (by omega)) (.v (.loadA (vs := c.cells) rfl (hat _ _ (by simp [bl])) rfl) ?_)))))))))
    refine .ef (.callT (Tb b (Bc B v1 v2) :: (k1 ++ k2)) rfl rfl (fun w s => Does.call_Do w b B hI.ok c hcw.2.1 hcw.2.2 v1 v2 k1 k2 h1 h2)) ?_
    generalize hB : B.does c = D at hnum hhi hI' hel
    obtain ⟨B', evs⟩ := D
    rintro _ _ ⟨_, ⟨A', c', v1', v2', k1', k2', ke, rfl, rfl, h1', h2', hE⟩, rfl⟩
    dsimp only at hnum hhi hI' hel h1' h2' hE ⊢
    refine .v (.assign rfl) (.nil ?_)
    refine .keep ((Tb b (Bc B' v1' v2') :: (k1' ++ k2')) ++ ke) ?_
    refine .seq (.seq ((.region (.v (.assign rfl) (.nil ?_)))))
    refine .block (.loop (X := N3) (fun x => [(1, .slice (some ⟨ba, oa, none⟩) len cap), (5, .pointer (some ⟨b, 0, none⟩)), (7, .int .u64 x.s), (8, .int .u64 x.h), (9, .int .i64 i), (10, .slice A' evs.length c'), (11, .int .i64 x.j)]) (fun _ => (Tb b (Bc B' v1' v2') :: (k1' ++ k2')) ++ ke)
      (fun x => x.j ≤ evs.length ∧ Num x.s (evs.drop x.j) B'.seq ∧ Hi x.h (evs.drop x.j) B'.high) (fun x => evs.length - x.j) ⟨0, B.seq, B.high⟩ ⟨by simp, hnum, hhi⟩ (.cons rfl (.cons rfl (.cons rfl (.cons rfl (.cons rfl (.cons rfl (.cons rfl (.nil _)))))))) (fun _ s => s) ?_)
    rintro ⟨j, sq, hg⟩ ⟨hj, hN, hH⟩
    dsimp only at hj hN hH ⊢
    refine .seq (.seq ((.region (.v (.move rfl) (.v (.move rfl) (.v (.len rfl) (.v (.lss rfl rfl) (.nil ?_))))))))
    refine .cond_dec rfl (fun g3 => .skip ?_) (fun g3 => .exit ?_)
    · have hjl : j < evs.length := by omega
      obtain ⟨be, oe, le, rfl, -, rfl, -, -, -⟩ := hE.some_ (by omega)
      have hld : ∀ (k : Nat) (v : Value) (own : List Nat) (hs : Hp), [(be, Ch.cells le 50)] ⊆ hs → k < 13 → (evs[j].cells)[k]? = some v → At w own hs ⟨be, oe + j * 13 + k, none⟩ [v] := fun k v own hs hh hk hv => hE.ld hh hjl hk hv
      rw [drop_at hjl] at hN hH
      generalize evs[j] = e at hN hH hld
      obtain ⟨hN1, hN2⟩ := hN
      refine .mid (X := Int) (fun x => [(1, .slice (some ⟨ba, oa, none⟩) len cap), (5, .pointer (some ⟨b, 0, none⟩)), (7, .int .u64 (nx sq)), (8, .int .u64 x), (9, .int .i64 i), (10, .slice (some ⟨be, oe, none⟩) evs.length c'), (11, .int .i64 j)]) (fun _ => (Tb b (Bc B' v1' v2') :: (k1' ++ k2')) ++ [(be, Ch.cells le 50)])
        (fun x => Hi x (evs.drop (j + 1)) B'.high) (.block (.seq ((.region (.v (.move rfl) (.v (.add rfl rfl) (.v (.assign rfl) (.nil ?_)))))))) ?_
      · refine .seq (.seq ((.region (.v (.move rfl) (.v (.move rfl) (.v (.indexAddr rfl rfl (by omega) (by omega)) (.v (.fieldAddr rfl) (.v (.load (v := .int .u64 e.seq) rfl (hld 0 _ _ _ (fun p hp => by simp at hp ⊢; simp [hp]) (by omega) rfl)) (.v (.move rfl) (.v (.nei rfl rfl) (.nil ?_)))))))))))
        refine .cond_dec rfl (fun g4 => absurd hN1 g4) (fun _ => .skip ?_)
        refine .seq ((.region (.v (.move rfl) (.v (.move rfl) (.v (.indexAddr rfl rfl (by omega) (by omega)) (.v (.fieldAddr rfl) (.v (.load (v := .int .i64 e.kind) rfl (hld 1 _ _ _ (fun p hp => by simp at hp ⊢; simp [hp]) (by omega) rfl)) (.v (.eqi rfl rfl) (.nil ?_)))))))))
        refine .cond_dec rfl (fun g5 => ?_) (fun g5 => .skip ?_)
        · unfold Hi at hH
          rw [if_pos g5] at hH
          refine .seq (.seq ((.region (.v (.move rfl) (.v (.move rfl) (.v (.indexAddr rfl rfl (by omega) (by omega)) (.v (.fieldAddr rfl) (.v (.load (v := .int .u64 e.id) rfl (hld 2 _ _ _ (fun p hp => by simp at hp ⊢; simp [hp]) (by omega) rfl)) (.v (.move rfl) (.v (.leq rfl rfl) (.nil ?_)))))))))))
          refine .cond_dec rfl (fun g6 => absurd hH.1 (by omega)) (fun _ => .skip ?_)
          refine .region (.v (.move rfl) (.v (.move rfl) (.v (.indexAddr rfl rfl (by omega) (by omega)) (.v (.fieldAddr rfl) (.v (.load (v := .int .u64 e.id) rfl (hld 2 _ _ _ (fun p hp => by simp at hp ⊢; simp [hp]) (by omega) rfl)) (.v (.assign rfl) (.nil ?_)))))))
          exact ⟨e.id, hH.2, .cons rfl (.cons rfl (.cons rfl (.cons rfl (.cons rfl (.cons rfl (.cons rfl (.nil _))))))), fun _ s => s⟩
        · unfold Hi at hH
          rw [if_neg g5] at hH
          exact ⟨hg, hH, .cons rfl (.cons rfl (.cons rfl (.cons rfl (.cons rfl (.cons rfl (.cons rfl (.nil _))))))), fun _ s => s⟩
      · intro x hx
        refine .region (.v (.move rfl) (.v (.addi rfl rfl (by omega)) (.v (.assign rfl) (.nil ?_))))
        exact ⟨⟨j + 1, nx sq, x⟩, ⟨by dsimp only; omega, hN2, hx⟩, by dsimp only; omega, .cons rfl (.cons rfl (.cons rfl (.cons rfl (.cons rfl (.cons rfl (.cons rfl (.nil _))))))), fun _ s => s⟩
    · have hd : evs.drop j = [] := List.drop_of_length_le (by omega)
      rw [hd] at hN hH
      have e1 : B'.seq = sq := hN
      have e2 : B'.high = hg := hH
      subst e1; subst e2
      obtain ⟨A1, c1, rfl⟩ := OwnS.sl h1'
      obtain ⟨A2, c2, rfl⟩ := OwnS.sl h2'
      have hlen := hI'.len
      have hcap := hI'.hi
      refine .seq ((.region (.v (.move rfl) ?_)))
      refine .ef (.call0 rfl rfl fun w s => Book_ok w b B'.cap B'.meet B'.high B'.seq A1 A2 c1 c2 B'.bs B'.ss (Rd.chunk s (T := 67) (l := Bc B' (.slice A1 B'.bs.length c1) (.slice A2 B'.ss.length c2)) (by simp) (fun j v hv => by rw [Nat.zero_add]; exact hv)) (OwnS.rd h1' s (no := []) (fun p hp => by simp [hp]) (by simp)) (OwnS.rd h2' s (no := []) (fun p hp => by simp [hp]) (by simp)) (by omega) (by omega)) ?_
      rintro _ _ ⟨_, ⟨E1, E2, d1, d2, q1, q2, rfl, rfl, oe1, oe2⟩, rfl⟩
      refine .nw .alloc fun b12 => (.st (.sw rfl rfl) (.nil ?_))
      refine .seq ((.region (.v (.fieldAddr rfl) (.v (.load (v := .int .u64 B'.seq) rfl (.one rfl)) (.v (.move rfl) (.v (.nei rfl rfl) (.v (.move rfl) (.or 76 80 4 4 rfl rfl (fun g2 => .v (.fieldAddr rfl) (.v (.load (v := .int .u64 B'.high) rfl (.one rfl)) (.v (.move rfl) (.v (.nei rfl rfl) (.nil ⟨rfl, rfl, rfl, rfl⟩))))) (.nil ?_)))))))))
      refine .cond rfl (fun h => absurd h (by simp)) (fun _ => .skip ?_)
      refine .region (.v (.move rfl) (.v (.addi rfl rfl (by omega)) (.v (.assign rfl) (.nil ?_))))
      exact ⟨⟨i + 1, B', _, _, k1', k2'⟩, ⟨by dsimp only; omega, hI', h1', h2'⟩, by dsimp only; omega, .cons rfl (.cons rfl (.cons rfl (.cons rfl (.cons rfl (.nil _))))), fun _ s => Sat.take (pre := Tb b (Bc B' (.slice A1 B'.bs.length c1) (.slice A2 B'.ss.length c2)) :: (k1' ++ k2')) s⟩
  · refine .seq ((.region (.v (.assign rfl) (.nil ?_))))
    exact .ret ⟨[_], ⟨rfl, trivial⟩, rfl⟩
end Go.Proofs.Ytmfobfamdaajmaa
