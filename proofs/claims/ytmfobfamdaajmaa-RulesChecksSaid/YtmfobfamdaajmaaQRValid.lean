/- The document's Valid: what it computes. -/
import Derived.Test.YtmfobfamdaajmaaQOrd
import Derived.Test.YtmfobfamdaajmaaVP
namespace Go.Proofs.Ytmfobfamdaajmaa
open Go.V
set_option linter.unusedVariables false
set_option linter.unusedSimpArgs false

/-- a book's cells -/
def bcells (cap meet : Int) (B S : Value) (high seq : Int) : List Value := [.int .i64 cap, .int .i64 meet, B, S, .int .u64 high, .int .u64 seq]
def Ord.wf (o : Ord) : Prop := U o.id ∧ U o.v ∧ U o.hd ∧ U o.pk
def Ord.rests (o : Ord) (high : Int) : Prop := Rests o.id o.ty o.pr o.v o.hd o.pk high
instance (o : Ord) (high : Int) : Decidable (o.rests high) := by unfold Ord.rests; infer_instance
def crossB : List Ord → List Ord → Bool
  | b :: _, s :: _ => decide (s.pr ≤ b.pr)
  | _, _ => false
def Vld (cap meet high : Int) (bs ss : List Ord) : Prop :=
  (1 ≤ cap ∧ cap ≤ 4096 ∧ 0 ≤ meet ∧ meet ≤ 3) ∧ (bs.length : Int) ≤ 4096 ∧ (ss.length : Int) ≤ 4096 ∧ (bs.length : Int) + (ss.length : Int) ≤ cap ∧ (∀ o ∈ bs ++ ss, o.rests high) ∧ Dist (bs ++ ss) ∧ Srt 1 bs ∧ Srt 2 ss ∧ crossB bs ss = false
instance (cap meet high : Int) (bs ss : List Ord) : Decidable (Vld cap meet high bs ss) := by unfold Vld; infer_instance
def vld (cap meet high : Int) (bs ss : List Ord) : Int := if Vld cap meet high bs ss then 0 else 120
theorem rows_app (a b : List Ord) : rows (a ++ b) = rows a ++ rows b := by simp [rows]
theorem rows_ones (l : List Ord) : ones (rows l) = true := by
  induction l with
  | nil => rfl
  | cons a l ih =>
    have e : rows (a :: l) = a.cells ++ rows l := rfl
    have h1 : ones a.cells = true := rfl
    simp only [ones] at *
    rw [e, List.all_append, h1, ih]; rfl
set_option maxRecDepth 10000 in
theorem refValid_ok (w : World) (cap meet high seq : Int) (A1 A2 : Option Addr) (c1 c2 : Nat) (bs ss : List Ord) (h1 : Rd w [] A1 (rows bs)) (h2 : Rd w [] A2 (rows ss)) (hw : ∀ o ∈ bs ++ ss, o.wf)
    (hb1 : bs.length ≤ 2513169434843) (hb2 : ss.length ≤ 2513169434843) :
    Is Try.prog 17 [.agg ⟨bcells cap meet (.slice A1 bs.length c1) (.slice A2 ss.length c2) high seq⟩] w (.int .i64 (vld cap meet high bs ss)) := by
  refine Does.pure (Does.of (n := 92) Try.func17 rfl rfl rfl rfl ?_)
  refine .seq ((.region (.nw (.box rfl rfl) fun b1 => (.v (.assign rfl) (.nil ?_)))))
  refine .seq (.seq ((.region (.v (.fieldAddr rfl) (.v (.loadA (vs := [.int .i64 cap, .int .i64 meet]) rfl (.chunk fun j v hv => ?_) rfl) (.pc rfl rfl (fun w s => refConfig_ok w cap meet) (.v (.not rfl) (.v (.move rfl) (.or 9 13 4 4 rfl rfl (fun g1 => .v (.fieldAddr rfl) (.v (.load rfl (.one rfl)) (.v (.len rfl) (.v (.gtr rfl rfl) (.nil ⟨rfl, rfl, rfl, rfl⟩))))) (.v (.move rfl) (.or 15 19 4 4 rfl rfl (fun g2 => .v (.fieldAddr rfl) (.v (.load rfl (.one rfl)) (.v (.len rfl) (.v (.gtr rfl rfl) (.nil ⟨rfl, rfl, rfl, rfl⟩))))) (.v (.move rfl) (.or 21 32 11 11 rfl rfl (fun g3 => .v (.fieldAddr rfl) (.v (.load rfl (.one rfl)) (.v (.len rfl) (.v (.fieldAddr rfl) (.v (.load rfl (.one rfl)) (.v (.len rfl) (.v (.addi rfl rfl (by omega)) (.v (.fieldAddr rfl) (.v (.fieldAddr rfl) (.v (.load rfl (.one rfl)) (.v (.gtr rfl rfl) (.nil ⟨rfl, rfl, rfl, rfl⟩)))))))))))) (.nil ?_))))))))))))))
  · match j, hv with
    | 0, hv => exact hv
    | 1, hv => exact hv
    | _ + 2, hv => cases hv
  refine .cond rfl (fun g => ?_) (fun g => .skip ?_) <;> simp only [Bool.and_eq_true, Bool.or_eq_true, Bool.not_eq_true', Bool.and_eq_false_iff, Bool.or_eq_false_iff, Bool.not_eq_false', decide_eq_true_eq, decide_eq_false_iff_not, Bool.false_eq_true, false_iff] at g
  · refine .seq ((.region (.v (.assign rfl) (.nil ?_))))
    exact .ret ⟨[_], ⟨rfl, trivial⟩, by rw [vld, if_neg (fun k : Vld cap meet high bs ss => by have := k.1; have := k.2.1; have := k.2.2.1; have := k.2.2.2.1; omega)]; rfl⟩
  have q1 : 1 ≤ cap ∧ cap ≤ 4096 ∧ 0 ≤ meet ∧ meet ≤ 3 := by omega
  refine .seq ((.draw [(b1, .cells (bcells cap meet (.slice A1 bs.length c1) (.slice A2 ss.length c2) high seq) 30)] (fun _ h => h) (by kernel_rfl) ?_))
  refine .v 1 rfl (by kernel_rfl) (fun hs' f => .fieldAddr rfl) ?_
  refine .v 2 rfl (by kernel_rfl) (fun hs' f => .load (v := .slice A1 bs.length c1) rfl (.one (hb := .sub f) rfl)) ?_
  refine .v 4 rfl (by kernel_rfl) (fun hs' f => .fieldAddr rfl) ?_
  refine .v 5 rfl (by kernel_rfl) (fun hs' f => .load (v := .slice A2 ss.length c2) rfl (.one (hb := .sub f) rfl)) ?_
  refine .ef 0 rfl (by kernel_rfl) (.buildSlice (out := []) rfl (by decide) rfl rfl) ?_ (fun v hs' ⟨b, _, e⟩ f => by subst e; exact fun p hp => List.mem_cons_of_mem _ (f hp))
  rintro _ _ ⟨b6, rfl, rfl⟩
  refine .ef 3 rfl (by kernel_rfl) (.append (c := 0) (k := bs.length) (vs := []) (news := rows bs) (h := [(b6, .cells [] 53)]) (fr := [(b1, .cells (bcells cap meet (.slice A1 bs.length c1) (.slice A2 ss.length c2) high seq) 30)]) rfl rfl ⟨rfl, .inr ⟨b6, 0, 0, [], rfl, rfl, by omega, by simp, by simp⟩⟩ (by exact List.Perm.refl _)
    (fun w' s => (h1.keep0 s).src (rows_length bs) (by omega)) (rows_length bs) (rows_ones _) (by omega) (by omega)) ?_ (fun v hs' ⟨h', _, e⟩ _ => by subst e; exact fun p hp => List.mem_append_right _ hp)
  rintro v6 _ ⟨h6, k6, rfl⟩
  refine .ef 6 rfl (by kernel_rfl) (.append (c := 0 + bs.length) (k := ss.length) (vs := [] ++ rows bs) (news := rows ss) (h := h6) (fr := [(b1, .cells (bcells cap meet (.slice A1 bs.length c1) (.slice A2 ss.length c2) high seq) 30)]) rfl rfl k6 (by exact List.Perm.refl _)
    (fun w' s => (h2.keep0 s).src (rows_length ss) (by omega)) (rows_length ss) (rows_ones _) (by omega) (by omega)) ?_ (fun v hs' ⟨h', _, e⟩ _ => by subst e; exact fun p hp => List.mem_append_right _ hp)
  rintro v7 _ ⟨h7, k7, rfl⟩
  refine .v 7 rfl (by kernel_rfl) (fun hs' f => .assign rfl) ?_
  refine .done (by kernel_rfl) ?_
  have ka : OwnS 53 7 v7 (bs ++ ss).length (rows (bs ++ ss)) h7 := by
    rw [rows_app, List.length_append]
    simpa using k7
  clear k7
  generalize hall : bs ++ ss = all at *
  have hln : all.length = bs.length + ss.length := by rw [← hall]; simp
  obtain ⟨A, c, rfl⟩ := ka.slice
  refine .seq (.seq ((.region (.v (.assign rfl) (.nil ?_)))))
  refine .block (.loop (X := Nat) (fun i => [(1, .pointer (some ⟨b1, 0, none⟩)), (3, .slice A all.length c), (4, .int .i64 i)]) (fun _ => h7 ++ [(b1, .cells (bcells cap meet (.slice A1 bs.length c1) (.slice A2 ss.length c2) high seq) 30)])
    (fun i => i ≤ all.length ∧ ∀ m, (hm : m < all.length) → m < i → all[m].rests high) (fun i => all.length - i) 0 ⟨by omega, fun m _ hm => by omega⟩ (.cons rfl (.cons rfl (.cons rfl (.nil _)))) (fun _ s => s) ?_)
  rintro i ⟨hi, hI⟩
  refine .seq (.seq ((.region (.v (.move rfl) (.v (.move rfl) (.v (.len rfl) (.v (.lss rfl rfl) (.nil ?_))))))))
  refine .cond_dec rfl (fun g1 => .skip ?_) (fun g1 => .exit ?_)
  · have hil : i < all.length := by omega
    obtain ⟨b, o, cp, l, e, rfl, hc, hlen, htk, -⟩ := ka.pos (by omega)
    cases e
    have hmem : all[i] ∈ all := List.getElem_mem hil
    obtain ⟨u1, u2, u3, u4⟩ := hw all[i] hmem
    refine .seq (.block (.seq ((.drawT 6 (by kernel_rfl) (by kernel_rfl) (.v (.move rfl) (.v (.move rfl) (.v (.indexAddr rfl rfl (by omega) (by omega)) (.v (.loadA (vs := all[i].cells) rfl (.chunk (l := l) (T := 53) fun j v hv => ?_) rfl) (.v (.fieldAddr rfl) (.v (.load (v := .int .u64 high) rfl (.one (l := bcells cap meet (.slice A1 bs.length c1) (.slice A2 ss.length c2) high seq) (T := 30) rfl)) (.nil ?_)))))))))))
    · rw [Int.toNat_natCast]
      have hj : j < 7 := (List.getElem?_eq_some_iff.1 hv).1
      have h9 := rows_get all i j hil hj
      rw [hv, ← htk, List.getElem?_take] at h9
      split at h9
      · rw [List.getElem?_drop] at h9; rw [Nat.add_assoc]; exact h9
      · cases h9
    refine .pc (v := .bool (decide (all[i].rests high))) rfl rfl (fun w _ => order_ok w _ _ _ _ _ _ _ high u1 u2 u3 u4) (.v (.not rfl) (.nil ?_))
    refine .cond rfl (fun g2 => ?_) (fun g2 => .skip ?_)
    · refine .seq ((.region (.v (.assign rfl) (.nil ?_))))
      have g3 : ¬ all[i].rests high := by simpa using g2
      exact .ret ⟨[_], ⟨rfl, trivial⟩, by rw [vld, if_neg (fun k : Vld cap meet high bs ss => g3 (k.2.2.2.2.1 _ (by rw [hall]; exact hmem)))]; rfl⟩
    · have g3 : all[i].rests high := by simpa using g2
      refine .region (.v (.move rfl) (.v (.addi rfl rfl (by omega)) (.v (.assign rfl) (.nil ?_))))
      refine ⟨i + 1, ⟨by omega, fun m hm hmi => ?_⟩, by omega, .cons rfl (.cons rfl (.cons rfl (.nil _))), fun _ s => s⟩
      by_cases e : m = i
      · subst e; exact g3
      · exact hI m hm (by omega)
  have hrest : ∀ o ∈ all, o.rests high := by
    intro o ho
    obtain ⟨m, hm, rfl⟩ := List.mem_iff_getElem.1 ho
    exact hI m hm (by omega)
  refine .seq (.seq ((.region (.v (.move rfl) (.pc rfl rfl (fun w' s => twice_ok w' A all.length c all (ka.rd s (fun p hp => by simp [hp]) (by simp)) rfl (by omega)) (.v (.move rfl) (.or 57 61 4 4 rfl rfl (fun _ => .v (.fieldAddr rfl) (.v (.load (v := .slice A1 bs.length c1) rfl (.one rfl)) (.pc rfl rfl (fun w' s => sorted_ok w' 1 A1 bs.length c1 bs (h1.keep0 s) rfl hb1) (.v (.not rfl) (.nil ⟨rfl, rfl, rfl, rfl⟩))))) (.v (.move rfl) (.or 63 67 4 4 rfl rfl (fun _ => .v (.fieldAddr rfl) (.v (.load (v := .slice A2 ss.length c2) rfl (.one rfl)) (.pc rfl rfl (fun w' s => sorted_ok w' 2 A2 ss.length c2 ss (h2.keep0 s) rfl hb2) (.v (.not rfl) (.nil ⟨rfl, rfl, rfl, rfl⟩))))) (.nil ?_))))))))))
  refine .cond rfl (fun g4 => ?_) (fun g4 => .skip ?_) <;> simp only [Bool.and_eq_true, Bool.or_eq_true, Bool.not_eq_true', Bool.and_eq_false_iff, Bool.or_eq_false_iff, Bool.not_eq_false', decide_eq_true_eq, decide_eq_false_iff_not, Bool.false_eq_true, false_iff] at g4
  · refine .seq ((.region (.v (.assign rfl) (.nil ?_))))
    refine .ret ⟨[_], ⟨rfl, trivial⟩, ?_⟩
    rw [vld, if_neg (fun k : Vld cap meet high bs ss => ?_)]; rfl
    have := k.2.2.2.2.2
    rw [hall] at this
    rcases g4 with (g4 | g4) | g4
    · exact g4 this.1
    · exact g4 this.2.1
    · exact g4 this.2.2.1
  have hfin : ∀ x : Bool, crossB bs ss = x → vld cap meet high bs ss = if x then 120 else 0 := by
    intro x hx
    cases x with
    | true => rw [vld, if_neg (fun k : Vld cap meet high bs ss => by rw [k.2.2.2.2.2.2.2.2] at hx; cases hx)]; rfl
    | false => rw [vld, if_pos ⟨q1, by omega, by omega, by omega, by rw [hall]; exact hrest, by rw [hall]; exact (by simpa using g4.1.1), by simpa using g4.1.2, by simpa using g4.2, hx⟩]; rfl
  by_cases hboth : 0 < bs.length ∧ 0 < ss.length
  · obtain ⟨b, o, rfl, -, hc⟩ := Rd.ord h1 hboth.1
    obtain ⟨b', o', rfl, -, hc'⟩ := Rd.ord h2 hboth.2
    have hcr : crossB bs ss = decide ((ss[0]'hboth.2).pr ≤ (bs[0]'hboth.1).pr) := by
      match bs, ss, hboth with
      | _ :: _, _ :: _, _ => rfl
    refine .seq (.seq ((.drawS (by kernel_rfl) (by kernel_rfl) (.v (.fieldAddr rfl) (.v (.load (v := .slice (some ⟨b, o, none⟩) bs.length c1) rfl (.one rfl)) (.v (.len rfl) (.v (.gtr rfl rfl) (.v (.move rfl) (.and 73 77 4 4 rfl rfl (fun _ => .v (.fieldAddr rfl) (.v (.load (v := .slice (some ⟨b', o', none⟩) ss.length c2) rfl (.one rfl)) (.v (.len rfl) (.v (.gtr rfl rfl) (.nil ⟨rfl, rfl, rfl⟩))))) (.v (.move rfl) (.and 79 90 11 11 rfl rfl (fun _ => .v (.fieldAddr rfl) (.v (.load (v := .slice (some ⟨b, o, none⟩) bs.length c1) rfl (.one rfl)) (.v (.indexAddr rfl rfl (by omega) (by omega)) (.v (.fieldAddr rfl) (.v (.load (v := .int .i64 (bs[0]'hboth.1).pr) rfl (.old1 (hc 0 hboth.1 3 (.int .i64 (bs[0]'hboth.1).pr) (by omega) rfl) (by simp [bl]))) (.v (.fieldAddr rfl) (.v (.load (v := .slice (some ⟨b', o', none⟩) ss.length c2) rfl (.one rfl)) (.v (.indexAddr rfl rfl (by omega) (by omega)) (.v (.fieldAddr rfl) (.v (.load (v := .int .i64 (ss[0]'hboth.2).pr) rfl (.old1 (hc' 0 hboth.2 3 (.int .i64 (ss[0]'hboth.2).pr) (by omega) rfl) (by simp [bl]))) (.v (.geq rfl rfl) (.nil ⟨rfl, rfl, rfl⟩)))))))))))) (.nil ?_))))))))))))
    refine .cond rfl (fun g5 => ?_) (fun g5 => .skip ?_) <;> simp only [Bool.and_eq_true, Bool.or_eq_true, Bool.not_eq_true', Bool.and_eq_false_iff, Bool.or_eq_false_iff, Bool.not_eq_false', decide_eq_true_eq, decide_eq_false_iff_not, Bool.false_eq_true, false_iff] at g5
    · refine .seq ((.region (.v (.assign rfl) (.nil ?_))))
      exact .ret ⟨[_], ⟨rfl, trivial⟩, by rw [hfin true (by rw [hcr]; exact decide_eq_true g5.2)]; rfl⟩
    · refine .seq ((.region (.v (.assign rfl) (.nil ?_))))
      exact .ret ⟨[_], ⟨rfl, trivial⟩, by rw [hfin false (by rw [hcr]; exact decide_eq_false (fun k => by rcases g5 with (g5 | g5) | g5 <;> omega))]; rfl⟩
  · have hcr : crossB bs ss = false := by
      match bs, ss, hboth with
      | [], _, _ => rfl
      | _ :: _, [], _ => rfl
      | _ :: _, _ :: _, h => exact absurd ⟨by simp, by simp⟩ h
    refine .seq (.seq ((.drawS (by kernel_rfl) (by kernel_rfl) (.v (.fieldAddr rfl) (.v (.load (v := .slice A1 bs.length c1) rfl (.one rfl)) (.v (.len rfl) (.v (.gtr rfl rfl) (.v (.move rfl) (.and 73 77 4 4 rfl rfl (fun _ => .v (.fieldAddr rfl) (.v (.load (v := .slice A2 ss.length c2) rfl (.one rfl)) (.v (.len rfl) (.v (.gtr rfl rfl) (.nil ⟨rfl, rfl, rfl⟩))))) (.v (.move rfl) (.and (b2 := false) 79 90 11 11 rfl rfl (fun g => absurd g (by simp only [Bool.and_eq_true, Bool.or_eq_true, Bool.not_eq_true', Bool.and_eq_false_iff, Bool.or_eq_false_iff, Bool.not_eq_false', decide_eq_true_eq, decide_eq_false_iff_not, Bool.false_eq_true, false_iff]; omega)) (.nil ?_))))))))))))
    refine .cond rfl (fun g5 => absurd g5 (by simp)) (fun _ => .skip ?_)
    refine .seq ((.region (.v (.assign rfl) (.nil ?_))))
    exact .ret ⟨[_], ⟨rfl, trivial⟩, by rw [hfin false hcr]; rfl⟩
end Go.Proofs.Ytmfobfamdaajmaa
