/- A step on a reader and on what came to it. -/
import Derived.Test.YtcgnbdgagkhehaaWReader
namespace Go.Proofs.Ytcgnbdgagkhehaa
open Go.V
set_option linter.unusedVariables false
set_option linter.unusedSimpArgs false

/-- a reader and its track in memory -/
abbrev TrH (bt br : Nat) (v1 v2 : Value) (h1 h2 : Hp) : Hp := (bt, .cells [.pointer (some ⟨br, 0, none⟩), v2] 59) :: (br, .cells [v1] 77) :: (h1 ++ h2)
def StepR (bt br : Nat) (n : Nat) (v : Value) (hs : Hp) : Prop :=
  v = .bool true ∧ ∃ (xs' : List (BitVec 8)) (v1 v2 : Value) (h1 h2 : Hp), hs = TrH bt br v1 v2 h1 h2 ∧ Bs v1 xs' h1 ∧ Bs v2 xs' h2 ∧ xs'.length ≤ n
theorem step_ok (w : World) (bt br : Nat) (v1 v2 : Value) (h1 h2 : Hp) (xs : List (BitVec 8)) (k1 : Bs v1 xs h1) (k2 : Bs v2 xs h2) (kd : Int) (ot : Bool) (B : Option Addr) (cB : Nat) (ys : List (BitVec 8))
    (hy : Rd w (bl (TrH bt br v1 v2 h1 h2)) B (byts ys)) (hb : xs.length + ys.length ≤ 1048576) :
    Does Try.prog 26 [.pointer (some ⟨bt, 0, none⟩), .agg ⟨[.int .i64 kd, .bool ot, .slice B ys.length cB]⟩] (TrH bt br v1 v2 h1 h2) w (StepR bt br (xs.length + ys.length)) := by
  refine Does.less (Does.of (n := 144) Try.func26 rfl rfl rfl rfl ?_)
  obtain ⟨A1, c1, rfl, hc1⟩ := k1.sl
  obtain ⟨A2, c2, rfl, hc2⟩ := k2.sl
  refine .seq ((.region (.nw (.box rfl rfl) fun b3 => (.v (.assign rfl) (.nil ?_)))))
  refine .seq (.seq ((.region (.v (.fieldAddr rfl) (.v (.load rfl (.one rfl)) (.nil ?_))))))
  refine .block (.seq ((.region (.v (.eqi rfl rfl) (.v (.assign rfl) (.nil ?_))))))
  refine .cond_dec rfl (fun g1 => ?_) (fun g1 => ?_)
  · -- Feed
    refine .seq ((.region (.v (.fieldAddr rfl) (.v (.load rfl (.one rfl)) (.ef (.call0 rfl rfl fun w s => hand_ok w B _ cB ys (hy.keep0 s) rfl (by omega)) ?_)))))
    rintro _ _ ⟨h, ho, rfl⟩
    obtain ⟨b, o, c3, l, rfl, rfl, hc, hlen, htk, hvl⟩ := ho.pos (by omega)
    have hcx : ∀ (j : Nat) (v : Value), (byts ys)[j]? = some v → l[o + j]? = some v := by
      intro j v hv
      have hv2 : (byts (ys ++ marks))[j]? = some v := by rw [byts_append, List.getElem?_append_left (List.getElem?_eq_some_iff.1 hv).1]; exact hv
      rw [← htk, List.getElem?_take] at hv2
      split at hv2
      · rw [List.getElem?_drop] at hv2; exact hv2
      · cases hv2
    refine .v (.assign rfl) (.nil ?_)
    refine .seq ((.drawT 9 (by kernel_rfl) (by kernel_rfl) (.v (.move rfl) (.v (.nilCheck rfl) (.v (.fieldAddr rfl) (.v (.load (v := .pointer (some ⟨br, 0, none⟩)) rfl (.one rfl)) (.v (.move rfl) (.v (.fieldAddr rfl) (.v (.load (v := .slice B ys.length cB) rfl (.one rfl)) (.v (.len rfl) (.v (.slHi rfl rfl (by omega) (by omega)) (.nil ?_))))))))))))
    refine .ef (.call (pre := (br, .cells [.slice A1 xs.length c1] 77) :: h1) (fr := [(b, .cells l 5), (b3, .cells [.int .i64 kd, .bool ot, .slice B ys.length cB] 61), (bt, .cells [.pointer (some ⟨br, 0, none⟩), .slice A2 xs.length c2] 59)] ++ h2) rfl rfl (List.perm_append_comm_assoc [_, _, _] ((br, _) :: h1) h2)
      fun w' s => Feed_ok w' br _ xs ys h1 k1 _ c3 (Rd.chunk s ?_ hcx) (by omega)) ?_
    · exact Sat.not_in s (h := (br, .cells [.slice A1 xs.length c1] 77) :: h1) (by intro p hp; simp at hp ⊢; rcases hp with rfl | hp <;> simp [*])
    rintro _ _ ⟨_, ⟨v1', h1', rfl, k1'⟩, rfl⟩
    refine .nil ?_
    refine .seq ((.drawZ 12 [(b3, .cells [.int .i64 kd, .bool ot, .slice B ys.length cB] 61), (bt, .cells [.pointer (some ⟨br, 0, none⟩), .slice A2 xs.length c2] 59)] (by intro p hp; simp at hp ⊢; rcases hp with rfl | rfl <;> simp) (by kernel_rfl) ?_))
    refine .v 0 rfl (by kernel_rfl) (fun hs' f => .move rfl) ?_
    refine .v 2 rfl (by kernel_rfl) (fun hs' f => .move rfl) ?_
    refine .v 3 rfl (by kernel_rfl) (fun hs' f => .nilCheck rfl) ?_
    refine .v 4 rfl (by kernel_rfl) (fun hs' f => .fieldAddr rfl) ?_
    refine .v 5 rfl (by kernel_rfl) (fun hs' f => .load (v := .slice A2 xs.length c2) rfl (.one (hb := .sub f) rfl)) ?_
    refine .v 7 rfl (by kernel_rfl) (fun hs' f => .fieldAddr rfl) ?_
    refine .v 8 rfl (by kernel_rfl) (fun hs' f => .load (v := .slice B ys.length cB) rfl (.one (hb := .sub f) rfl)) ?_
    refine .ef 1 rfl (by kernel_rfl) (.buildSlice (out := []) rfl (by decide) rfl rfl) ?_ (fun v hs' ⟨b, _, e⟩ f => by subst e; exact fun p hp => List.mem_cons_of_mem _ (f hp)) rfl
    rintro _ _ ⟨b6, rfl, rfl⟩
    refine .ef 6 rfl (by kernel_rfl) (.append (c := 0) (k := xs.length) (vs := []) (news := byts xs) (h := [(b6, .cells [] 5)]) (fr := (h1' ++ [(br, .cells [v1'] 77)]) ++ ([(b, .cells l 5), (b3, .cells [.int .i64 kd, .bool ot, .slice B ys.length cB] 61), (bt, .cells [.pointer (some ⟨br, 0, none⟩), .slice A2 xs.length c2] 59)] ++ h2)) rfl rfl ⟨rfl, .inr ⟨b6, 0, 0, [], rfl, rfl, by omega, by simp, by simp⟩⟩ (List.Perm.refl _)
      (fun w' s => (k2.rd s (no := []) (fun p hp => by simp [hp]) (by simp)).src (by rw [byts_length]; omega) (by omega)) (by rw [byts_length]; omega) (byts_ones _) (by omega) (by omega)) ?_ (fun v hs' ⟨h', _, e⟩ _ => by subst e; intro p hp; simp at hp ⊢; rcases hp with rfl | rfl <;> simp) rfl
    rintro v6 _ ⟨h6, k6, rfl⟩
    refine .ef 9 rfl (by kernel_rfl) (.append (c := 0 + xs.length) (k := ys.length) (vs := [] ++ byts xs) (news := byts ys) (h := h6) (fr := (h1' ++ [(br, .cells [v1'] 77)]) ++ ([(b, .cells l 5), (b3, .cells [.int .i64 kd, .bool ot, .slice B ys.length cB] 61), (bt, .cells [.pointer (some ⟨br, 0, none⟩), .slice A2 xs.length c2] 59)] ++ h2)) rfl rfl k6 (List.Perm.refl _)
      (fun w' s => (hy.keep0 s).src (by rw [byts_length]; omega) (by omega)) (by rw [byts_length]; omega) (byts_ones _) (by omega) (by omega)) ?_ (fun v hs' ⟨h', _, e⟩ _ => by subst e; intro p hp; simp at hp ⊢; rcases hp with rfl | rfl <;> simp) rfl
    rintro v9 _ ⟨h9, k9, rfl⟩
    refine .v1 10 rfl (by kernel_rfl) (.nilCheck rfl) ?_ rfl
    refine .v1 11 rfl (by kernel_rfl) (.fieldAddr rfl) ?_ rfl
    refine .st rfl (by kernel_rfl) rfl (.store rfl rfl (by obtain ⟨_, _, rfl⟩ := k9.slice; rfl) (by simp)) ?_
    refine .done (by kernel_rfl) ?_
    have k9' : Bs v9 (xs ++ ys) h9 := by
      unfold Bs
      rw [List.length_append]
      simpa [byts_append] using k9
    refine .seq ((.region (.v (.move rfl) (.v (.fieldAddr rfl) (.v (.load (v := .slice B ys.length cB) rfl (.one rfl)) ?_)))))
    refine .ef (.call (pre := [(b, .cells l 5)]) (fr := (h9 ++ (h1' ++ [(br, .cells [v1'] 77)])) ++ ([(b3, .cells [.int .i64 kd, .bool ot, .slice B ys.length cB] 61), (bt, .cells [.pointer (some ⟨br, 0, none⟩), v9] 59)] ++ h2)) rfl rfl (by rw [← List.append_assoc]; exact List.perm_middle)
      fun w' s => left_ok w' b o c3 ys.length cB B l (ys ++ marks) ys 5 (ys.length + 5) (by simp [marks]) (by simpa using htk) (by omega) (by omega) (hy.keep s fun b' hb' => ?_) rfl (by omega) (by omega)) ?_
    · simp at hb'
      subst hb'
      exact s.mine _ (by simp [bl])
    rintro _ _ ⟨_, ⟨rfl, rfl⟩, rfl⟩
    refine .v (.assign rfl) (.nil ?_)
    refine .ret ⟨[_], ⟨rfl, trivial⟩, TrH bt br v1' v9 h1' h9, fun w' s => ?_, by simp [tup], xs ++ ys, v1', v9, h1', h9, rfl, k1', k9', by simp⟩
    have s1 : Sat w (bl (TrH bt br (.slice A1 xs.length c1) (.slice A2 xs.length c2) h1 h2)) ((h9 ++ (h1' ++ [(br, .cells [v1'] 77)])) ++ [(bt, .cells [.pointer (some ⟨br, 0, none⟩), v9] 59)]) w' := s.sub (List.Sublist.append_left (.cons _ (.cons_cons _ (List.nil_sublist _))) _)
    refine s1.perm ?_
    refine (List.perm_append_singleton _ _).trans (.cons _ ?_)
    rw [← List.append_assoc]
    exact (List.perm_append_singleton _ _).trans (.cons _ List.perm_append_comm)
  refine .seq ((.region (.v (.eqi rfl rfl) (.v (.assign rfl) (.nil ?_)))))
  refine .cond_dec rfl (fun g2 => ?_) (fun g2 => ?_)
  · -- Next
    refine .seq ((.region (.v (.move rfl) (.v (.nilCheck rfl) (.v (.fieldAddr rfl) (.v (.load (v := .pointer (some ⟨br, 0, none⟩)) rfl (.one rfl)) (.ef (.call (pre := (br, .cells [.slice A1 xs.length c1] 77) :: h1) (fr := [(b3, .cells [.int .i64 kd, .bool ot, .slice B ys.length cB] 61), (bt, .cells [.pointer (some ⟨br, 0, none⟩), .slice A2 xs.length c2] 59)] ++ h2) rfl rfl (by exact List.perm_append_comm_assoc [(b3, .cells [.int .i64 kd, .bool ot, .slice B ys.length cB] 61), (bt, .cells [.pointer (some ⟨br, 0, none⟩), .slice A2 xs.length c2] 59)] ((br, .cells [.slice A1 xs.length c1] 77) :: h1) h2) fun w' s => Next_ok w' br _ xs h1 k1) ?_)))))))
    rintro _ _ ⟨_, ⟨rfl, v1', rfl, k1'⟩, rfl⟩
    by_cases hx : xs.length < 64
    · have e1 : nextV xs = .tuple ⟨[.agg ⟨fcells 0#8 zw⟩, .int .i64 0, .bool false]⟩ := by rw [nextV, if_pos hx]
      have e2 : rest64 xs = xs := by rw [rest64, if_pos hx]
      rw [e1]
      rw [e2] at k1'
      have eq1 : cellsEq (fcells 0#8 zw) (fcells 0#8 zw) = true := by rw [fcells_eq rfl rfl]; simp
      refine .v (.move rfl) (.v (.extract rfl rfl) (.v (.extract rfl rfl) (.v (.extract rfl rfl) (.nw .alloc fun b6 => (.st (.storeW rfl rfl (fcells_length rfl) (fcells_ones _ _) rfl) (.v (.assign rfl) (.v (.assign rfl) (.nil ?_))))))))
      refine .seq (.seq ((.region (.v (.move rfl) (.v (.nilCheck rfl) (.v (.fieldAddr rfl) (.v (.load (v := .slice A2 xs.length c2) rfl (.one rfl)) (.v (.len rfl) (.v (.lss rfl rfl) (.nil ?_))))))))))
      refine .cond_dec rfl (fun g3 => ?_) (fun g3 => absurd g3 (by omega))
      refine .seq ((.region (.v (.move rfl) (.v (.not rfl) (.v (.move rfl) (.and 65 68 3 3 rfl rfl (fun _ => .v (.loadA rfl .whole (fcells_length rfl)) (.v (.build (out := fcells 0#8 zw) rfl rfl) (.v (.eqA rfl rfl (fcells_oks rfl) (fcells_oks rfl)) (.nil ⟨rfl, rfl, rfl, rfl⟩)))) (.v (.move rfl) (.and 70 72 2 2 rfl rfl (fun _ => .v (.move rfl) (.v (.eqi rfl rfl) (.nil ⟨rfl, rfl, rfl, rfl⟩))) (.v (.assign rfl) (.nil ?_))))))))))
      refine .ret ⟨[_], ⟨rfl, trivial⟩, TrH bt br v1' (.slice A2 xs.length c2) h1 h2, fun w' s => ?_, by simp [tup, eq1], xs, v1', _, h1, h2, rfl, k1', k2, by omega⟩
      have s1 : Sat w (bl (TrH bt br (.slice A1 xs.length c1) (.slice A2 xs.length c2) h1 h2)) ((br, .cells [v1'] 77) :: (h1 ++ ((bt, .cells [.pointer (some ⟨br, 0, none⟩), .slice A2 xs.length c2] 59) :: h2))) w' := s.sub (.cons _ (.cons_cons _ (List.Sublist.append_left (.cons _ (List.Sublist.refl _)) _)))
      exact s1.perm (((List.Perm.cons _ List.perm_middle)).trans (List.Perm.swap _ _ _))
    · have hU := unpk_ws (xs.take 64)
      have e1 : nextV xs = .tuple ⟨[.agg ⟨fcells (unpk (xs.take 64)).1 (unpk (xs.take 64)).2.1⟩, .int .i64 (unpk (xs.take 64)).2.2, .bool true]⟩ := by rw [nextV, if_neg hx]
      have e2 : rest64 xs = xs.drop 64 := by rw [rest64, if_neg hx]
      rw [e1]
      rw [e2] at k1'
      have eq1 : cellsEq (fcells (unpk (xs.take 64)).1 (unpk (xs.take 64)).2.1) (fcells (unpk (xs.take 64)).1 (unpk (xs.take 64)).2.1) = true := by rw [fcells_eq hU hU]; simp
      have k2' := k2.cut (by omega : 64 ≤ xs.length)
      refine .v (.move rfl) (.v (.extract (v := .agg ⟨fcells (unpk (xs.take 64)).1 (unpk (xs.take 64)).2.1⟩) rfl rfl) (.v (.extract (v := .int .i64 (unpk (xs.take 64)).2.2) rfl rfl) (.v (.extract (v := .bool true) rfl rfl) (.nw .alloc fun b6 => (.st (.storeW rfl rfl (fcells_length hU) (fcells_ones _ _) rfl) (.v (.assign rfl) (.v (.assign rfl) (.nil ?_))))))))
      refine .seq (.seq ((.region (.v (.move rfl) (.v (.nilCheck rfl) (.v (.fieldAddr rfl) (.v (.load (v := .slice A2 xs.length c2) rfl (.one rfl)) (.v (.len rfl) (.v (.lss rfl rfl) (.nil ?_))))))))))
      refine .cond_dec rfl (fun g3 => absurd g3 (by omega)) (fun g3 => .skip ?_)
      refine .seq ((.region (.v (.move rfl) (.v (.nilCheck rfl) (.v (.fieldAddr rfl) (.v (.load (v := .slice A2 xs.length c2) rfl (.one rfl)) (.v (.slHi rfl rfl (by omega) (by omega)) (.pc rfl rfl (fun w s => refUnpack_ok w _ _ c2 (xs.take 64) (by rw [← byts_tk]; exact (k2.rd s (fun p hp => by simp [hp]) (by simp)).take 64) (by simp; omega)) (.v (.move rfl) (.v (.extract (vs := [.agg ⟨fcells (unpk (xs.take 64)).1 (unpk (xs.take 64)).2.1⟩, .int .i64 (unpk (xs.take 64)).2.2]) rfl rfl) (.v (.extract (vs := [.agg ⟨fcells (unpk (xs.take 64)).1 (unpk (xs.take 64)).2.1⟩, .int .i64 (unpk (xs.take 64)).2.2]) rfl rfl) (.nw .alloc fun b9 => (.st (.storeW rfl rfl (fcells_length hU) (fcells_ones _ _) rfl) (.v (.assign rfl) (.nil ?_)))))))))))))))
      refine .seq ((.region (.v (.move rfl) (.v (.move rfl) (.v (.nilCheck rfl) (.v (.fieldAddr rfl) (.v (.load (v := .slice A2 xs.length c2) rfl (.one rfl)) (.v (.slLo rfl rfl (by omega) (by omega)) (.v (.nilCheck rfl) (.v (.fieldAddr rfl) (.st (.store rfl rfl rfl (by simp)) (.nil ?_))))))))))))
      refine .seq ((.region (.v (.move rfl) (.v (.move rfl) (.and 92 95 3 3 rfl rfl (fun _ => .v (.loadA rfl .whole (fcells_length hU)) (.v (.loadA rfl .whole (fcells_length hU)) (.v (.eqA rfl rfl (fcells_oks hU) (fcells_oks hU)) (.nil ⟨rfl, rfl, rfl, rfl⟩)))) (.v (.move rfl) (.and 97 100 3 3 rfl rfl (fun _ => .v (.move rfl) (.v (.move rfl) (.v (.eqi rfl rfl) (.nil ⟨rfl, rfl, rfl, rfl⟩)))) (.v (.assign rfl) (.nil ?_)))))))))
      refine .ret ⟨[_], ⟨rfl, trivial⟩, TrH bt br v1' (.slice (cutA A2 c2 64 1) (xs.length - 64) (c2 - 64)) h1 h2, fun w' s => ?_, by simp [tup, eq1], xs.drop 64, v1', _, h1, h2, rfl, k1', k2', by simp; omega⟩
      have s1 : Sat w (bl (TrH bt br (.slice A1 xs.length c1) (.slice A2 xs.length c2) h1 h2)) ((br, .cells [v1'] 77) :: (h1 ++ ((bt, .cells [.pointer (some ⟨br, 0, none⟩), .slice (cutA A2 c2 64 1) (xs.length - 64) (c2 - 64)] 59) :: h2))) w' := s.sub (.cons _ (.cons _ (.cons_cons _ (List.Sublist.append_left (.cons _ (List.Sublist.refl _)) _))))
      exact s1.perm (((List.Perm.cons _ List.perm_middle)).trans (List.Perm.swap _ _ _))
  refine .seq ((.region (.v (.eqi rfl rfl) (.v (.assign rfl) (.nil ?_)))))
  refine .cond_dec rfl (fun g3 => ?_) (fun g3 => ?_)
  · -- Left
    refine .seq ((.draw [(bt, .cells [.pointer (some ⟨br, 0, none⟩), .slice A2 xs.length c2] 59)] (by intro p hp; simp at hp ⊢; simp [hp]) (by kernel_rfl) ?_))
    refine .v 0 rfl (by kernel_rfl) (fun hs' f => .move rfl) ?_
    refine .v 1 rfl (by kernel_rfl) (fun hs' f => .nilCheck rfl) ?_
    refine .v 2 rfl (by kernel_rfl) (fun hs' f => .fieldAddr rfl) ?_
    refine .v 3 rfl (by kernel_rfl) (fun hs' f => .load (v := .pointer (some ⟨br, 0, none⟩)) rfl (.one (hb := .sub f) rfl)) ?_
    refine .v 5 rfl (by kernel_rfl) (fun hs' f => .move rfl) ?_
    refine .v 6 rfl (by kernel_rfl) (fun hs' f => .nilCheck rfl) ?_
    refine .v 7 rfl (by kernel_rfl) (fun hs' f => .fieldAddr rfl) ?_
    refine .v 8 rfl (by kernel_rfl) (fun hs' f => .load (v := .slice A2 xs.length c2) rfl (.one (hb := .sub f) rfl)) ?_
    refine .v 9 rfl (by kernel_rfl) (fun hs' f => .len rfl) ?_
    refine .ef 4 rfl (by kernel_rfl) (.call (pre := [(br, .cells [.slice A1 xs.length c1] 77)]) (fr := [(b3, .cells [.int .i64 kd, .bool ot, .slice B ys.length cB] 61), (bt, .cells [.pointer (some ⟨br, 0, none⟩), .slice A2 xs.length c2] 59)] ++ (h1 ++ h2)) rfl rfl (by exact List.perm_append_comm_assoc [(b3, .cells [.int .i64 kd, .bool ot, .slice B ys.length cB] 61), (bt, .cells [.pointer (some ⟨br, 0, none⟩), .slice A2 xs.length c2] 59)] [(br, .cells [.slice A1 xs.length c1] 77)] (h1 ++ h2)) fun w' s => Left_ok w' br _ xs.length _ h1 k1) ?_ (fun v hs' ⟨h', ⟨_, e1⟩, e⟩ _ => by subst e1; subst e; intro p hp; simp at hp ⊢; simp [hp])
    rintro _ _ ⟨_, ⟨rfl, rfl⟩, rfl⟩
    refine .v 10 rfl (by kernel_rfl) (fun hs' f => .eqi rfl rfl) ?_
    refine .v 11 rfl (by kernel_rfl) (fun hs' f => .assign rfl) ?_
    refine .done (by kernel_rfl) ?_
    refine .ret ⟨[_], ⟨rfl, trivial⟩, TrH bt br (.slice A1 xs.length c1) (.slice A2 xs.length c2) h1 h2, fun w' s => ?_, by simp [tup], xs, _, _, h1, h2, rfl, k1, k2, by omega⟩
    exact (s.sub (.cons_cons _ (.cons _ (List.Sublist.refl _)))).perm (List.Perm.swap _ _ _)
  refine .seq ((.region (.v (.eqi rfl rfl) (.v (.assign rfl) (.nil ?_)))))
  refine .cond_dec rfl (fun g4 => ?_) (fun g4 => .skip ?_)
  · -- Close
    refine .seq ((.region (.v (.move rfl) (.v (.nilCheck rfl) (.v (.fieldAddr rfl) (.v (.load (v := .pointer (some ⟨br, 0, none⟩)) rfl (.one rfl)) (.ef (.call (pre := [(br, .cells [.slice A1 xs.length c1] 77)]) (fr := [(b3, .cells [.int .i64 kd, .bool ot, .slice B ys.length cB] 61), (bt, .cells [.pointer (some ⟨br, 0, none⟩), .slice A2 xs.length c2] 59)] ++ (h1 ++ h2)) rfl rfl (by exact List.perm_append_comm_assoc [(b3, .cells [.int .i64 kd, .bool ot, .slice B ys.length cB] 61), (bt, .cells [.pointer (some ⟨br, 0, none⟩), .slice A2 xs.length c2] 59)] [(br, .cells [.slice A1 xs.length c1] 77)] (h1 ++ h2)) fun w' s => Close_ok w' br _ xs h1 k1) ?_)))))))
    rintro _ _ ⟨_, ⟨rfl, rfl⟩, rfl⟩
    refine .v (.assign rfl) (.nil ?_)
    refine .seq ((.region (.v (.move rfl) (.v (.nilCheck rfl) (.v (.fieldAddr rfl) (.v (.load (v := .slice A2 xs.length c2) rfl (.one rfl)) (.v (.len rfl) (.v (.gtr rfl rfl) (.v (.assign rfl) (.nil ?_))))))))))
    refine .seq ((.region (.v (.move rfl) (.v (.nilCheck rfl) (.v (.fieldAddr rfl) (.st (.store rfl rfl rfl (by simp)) (.nil ?_)))))))
    refine .seq ((.region (.v (.move rfl) (.v (.move rfl) (.and 132 134 2 2 rfl rfl (fun _ => .v (.move rfl) (.v (.eqi rfl rfl) (.nil ⟨rfl, rfl, rfl, rfl⟩))) (.v (.move rfl) (.or 136 142 6 4 rfl rfl (fun _ => .v (.move rfl) (.v (.not rfl) (.v (.move rfl) (.and 139 141 2 2 rfl rfl (fun _ => .v (.move rfl) (.v (.eqi rfl rfl) (.nil ⟨rfl, rfl, rfl, rfl⟩))) (.nil ⟨rfl, rfl, rfl, rfl⟩))))) (.v (.assign rfl) (.nil ?_)))))))))
    refine .ret ⟨[_], ⟨rfl, trivial⟩, TrH bt br (.slice none 0 0) (.slice none 0 0) [] [], fun w' s => ?_, ?_, [], _, _, [], [], rfl, Bs.nil, Bs.nil, by simp⟩
    · have s1 : Sat w (bl (TrH bt br (.slice A1 xs.length c1) (.slice A2 xs.length c2) h1 h2)) [(br, .cells [.slice none 0 0] 77), (bt, .cells [.pointer (some ⟨br, 0, none⟩), .slice none 0 0] 59)] w' := s.sub (.cons_cons _ (.cons _ (.cons_cons _ (List.nil_sublist _))))
      exact s1.perm (List.Perm.swap _ _ _)
    · simp only [tup]
      congr 1
      by_cases h0 : 0 < xs.length
      · simp [h0]
      · simp [h0]
  · refine .seq ((.region (.v (.assign rfl) (.nil ?_))))
    refine .ret ⟨[_], ⟨rfl, trivial⟩, TrH bt br (.slice A1 xs.length c1) (.slice A2 xs.length c2) h1 h2, fun w' s => s.sub (.cons _ (List.Sublist.refl _)), by simp [tup], xs, _, _, h1, h2, rfl, k1, k2, by omega⟩
end Go.Proofs.Ytcgnbdgagkhehaa
