/- bourseref18.Unpack; FeedPacks: the walk. -/
import Derived.Test.YtinmhhonpflojaaFPack
namespace Go.Proofs.Ytinmhhonpflojaa
open Go.V
set_option linter.unusedVariables false
set_option linter.unusedSimpArgs false

theorem refUnpack_ok (w : World) (k a0 a1 a2 a3 a4 a5 a6 : Int) : Is Try.prog 14 [.agg ⟨fr k a0 a1 a2 a3 a4 a5 a6⟩] w (upkV k a0 a1 a2 a3 a4 a5 a6) := by
  refine Does.pure (Does.of (n := 53) Try.func14 rfl rfl rfl rfl ?_)
  refine .seq ((.region (.nw (.box rfl rfl) fun b1 => (.nw .alloc fun b2 => (.v (.assign rfl) (.nil ?_))))))
  refine .seq (.seq ((.region (.v (.fieldAddr rfl) (.v (.load rfl (.one rfl)) (.v (.nei rfl rfl) (.v (.move rfl) (.and 10 13 3 3 rfl rfl (fun g1 => .v (.fieldAddr rfl) (.v (.load rfl (.one rfl)) (.v (.nei rfl rfl) (.nil ⟨rfl, rfl, rfl, rfl⟩)))) (.nil ?_)))))))))
  refine .cond rfl (fun h1 => ?_) (fun h1 => .skip ?_)
  · have hk : k ≠ 80 ∧ k ≠ 81 := by simpa using h1
    have e : upk k a0 a1 a2 a3 a4 a5 a6 = (zd, 41) := by unfold upk; rw [if_pos hk]
    refine .seq ((.region (.v (.build (out := zd) rfl rfl) (.st (.sw rfl rfl) (.v (.assign rfl) (.nil ?_))))))
    exact .ret ⟨[_, _], ⟨⟨_, rfl, .inr ⟨6, _, inferInstance, rfl, rfl, .whole⟩⟩, rfl, trivial⟩, by rw [upkV, e]; rfl⟩
  have hk : ¬ (k ≠ 80 ∧ k ≠ 81) := by
    intro h
    simp [h.1, h.2] at h1
  refine .seq ((.region (.v (.fieldAddr rfl) (.v (.indexAddrA1 rfl rfl (by omega) (by omega)) (.v (.load rfl (.one rfl)) (.v (.fieldAddr rfl) (.v (.load rfl (.one rfl)) (.v (.conv rfl) (.v (.sub_ rfl rfl) (.v (.fieldAddr rfl) (.v (.indexAddrA1 rfl rfl (by omega) (by omega)) (.v (.load rfl (.one rfl)) (.v (.conv rfl) (.v (.fieldAddr rfl) (.v (.indexAddrA1 rfl rfl (by omega) (by omega)) (.v (.load rfl (.one rfl)) (.v (.conv rfl) (.v (.fieldAddr rfl) (.v (.indexAddrA1 rfl rfl (by omega) (by omega)) (.v (.load rfl (.one rfl)) (.v (.fieldAddr rfl) (.v (.indexAddrA1 rfl rfl (by omega) (by omega)) (.v (.load rfl (.one rfl)) (.v (.conv rfl) (.v (.build (out := dcells a0 (kof k) (IntKind.i64.wrap a1) (IntKind.i64.wrap a2) a3 (IntKind.i64.wrap a4)) rfl rfl) (.nw .alloc fun b4 => (.st (.sw rfl rfl) (.nil ?_))))))))))))))))))))))))))))
  refine .seq ((.region (.v (.loadA rfl .whole rfl) (.pc rfl rfl (fun w _ => refPack_ok w a0 (kof k) (IntKind.i64.wrap a1) (IntKind.i64.wrap a2) a3 (IntKind.i64.wrap a4)) (.v (.move rfl) (.v (.extract (vs := [.agg ⟨(pk a0 (kof k) (IntKind.i64.wrap a1) (IntKind.i64.wrap a2) a3 (IntKind.i64.wrap a4)).1⟩, .int .i64 (pk a0 (kof k) (IntKind.i64.wrap a1) (IntKind.i64.wrap a2) a3 (IntKind.i64.wrap a4)).2]) rfl rfl) (.v (.extract (vs := [.agg ⟨(pk a0 (kof k) (IntKind.i64.wrap a1) (IntKind.i64.wrap a2) a3 (IntKind.i64.wrap a4)).1⟩, .int .i64 (pk a0 (kof k) (IntKind.i64.wrap a1) (IntKind.i64.wrap a2) a3 (IntKind.i64.wrap a4)).2]) rfl rfl) (.nw .alloc fun b6 => (.st (.sw rfl rfl (pk_len _ _ _ _ _ _) (pk_ones _ _ _ _ _ _)) (.v (.assign rfl) (.nil ?_)))))))))))
  refine .seq (.seq ((.region (.v (.move rfl) (.v (.nei rfl rfl) (.v (.move rfl) (.or 46 49 3 3 rfl rfl (fun g2 => .v (.loadA rfl .whole (pk_len _ _ _ _ _ _)) (.v (.loadA rfl .whole rfl) (.v (.neA rfl rfl (pk_oks _ _ _ _ _ _) (fr_oks _ _ _ _ _ _ _ _)) (.nil ⟨rfl, rfl, rfl, rfl⟩)))) (.nil ?_))))))))
  refine .cond rfl (fun h2 => ?_) (fun h2 => .skip ?_)
  · have e : upk k a0 a1 a2 a3 a4 a5 a6 = (zd, 40) := by unfold upk; rw [if_neg hk, if_pos (by simpa using h2)]
    refine .seq ((.region (.v (.build (out := zd) rfl rfl) (.st (.sw rfl rfl) (.v (.assign rfl) (.nil ?_))))))
    exact .ret ⟨[_, _], ⟨⟨_, rfl, .inr ⟨6, _, inferInstance, rfl, rfl, .whole⟩⟩, rfl, trivial⟩, by rw [upkV, e]; rfl⟩
  · have e : upk k a0 a1 a2 a3 a4 a5 a6 = (dcells a0 (kof k) (IntKind.i64.wrap a1) (IntKind.i64.wrap a2) a3 (IntKind.i64.wrap a4), 0) := by unfold upk; rw [if_neg hk, if_neg (by simpa using h2)]
    refine .seq ((.region (.v (.loadA rfl .whole rfl) (.st (.sw rfl rfl) (.v (.assign rfl) (.nil ?_))))))
    exact .ret ⟨[_, _], ⟨⟨_, rfl, .inr ⟨6, _, inferInstance, rfl, rfl, .whole⟩⟩, rfl, trivial⟩, by rw [upkV, e]; rfl⟩

theorem okw_d {cs : List Value} (h : okw DL cs) : ∃ s k d p q c, cs = dcells s k d p q c := by
  match cs, h with
  | [.int _ s, .int _ k, .int _ d, .int _ p, .int _ q, .int _ c], ⟨⟨h1, _⟩, ⟨h2, _⟩, ⟨h3, _⟩, ⟨h4, _⟩, ⟨h5, _⟩, ⟨h6, _⟩, _⟩ => exact ⟨s, k, d, p, q, c, by rw [h1, h2, h3, h4, h5, h6]; rfl⟩
theorem okw_f {cs : List Value} (h : okw FL cs) : ∃ k a0 a1 a2 a3 a4 a5 a6, cs = fr k a0 a1 a2 a3 a4 a5 a6 := by
  match cs, h with
  | [.int _ k, .int _ a0, .int _ a1, .int _ a2, .int _ a3, .int _ a4, .int _ a5, .int _ a6], ⟨⟨h1, _⟩, ⟨h2, _⟩, ⟨h3, _⟩, ⟨h4, _⟩, ⟨h5, _⟩, ⟨h6, _⟩, ⟨h7, _⟩, ⟨h8, _⟩, _⟩ => exact ⟨k, a0, a1, a2, a3, a4, a5, a6, by rw [h1, h2, h3, h4, h5, h6, h7, h8]; rfl⟩
theorem cellsEq_refl {ls : List Lf} {xs : List Value} (h : oks ls xs) : cellsEq xs xs = true := (cellsEq_iff h h).2 rfl

theorem FeedPacks_ok (w : World) (s k d p q c : Int) (kf a0 a1 a2 a3 a4 a5 a6 : Int) : Is Try.prog 3 [.agg ⟨dcells s k d p q c⟩, .agg ⟨fr kf a0 a1 a2 a3 a4 a5 a6⟩] w (.bool true) := by
  refine Does.pure (Does.of (n := 51) Try.func3 rfl rfl rfl rfl ?_)
  have e1 := cellsEq_refl (pk_oks s k d p q c)
  have e2 := cellsEq_refl (upk_oks kf a0 a1 a2 a3 a4 a5 a6)
  refine .seq ((.region (.nw (.box rfl rfl) fun b2 => (.nw (.box rfl rfl) fun b3 => (.v (.assign rfl) (.nil ?_))))))
  refine .seq ((.region (.v (.loadA rfl .whole rfl) (.pc rfl rfl (fun w _ => Pack_ok w s k d p q c) (.v (.move rfl) (.v (.extract (vs := [.agg ⟨(pk s k d p q c).1⟩, .int .i64 (pk s k d p q c).2]) rfl rfl) (.v (.extract (vs := [.agg ⟨(pk s k d p q c).1⟩, .int .i64 (pk s k d p q c).2]) rfl rfl) (.nw .alloc fun b5 => (.st (.sw rfl rfl (pk_len _ _ _ _ _ _) (pk_ones _ _ _ _ _ _)) (.v (.assign rfl) (.nil ?_)))))))))))
  refine .seq ((.region (.v (.loadA rfl .whole rfl) (.pc rfl rfl (fun w _ => refPack_ok w s k d p q c) (.v (.move rfl) (.v (.extract (vs := [.agg ⟨(pk s k d p q c).1⟩, .int .i64 (pk s k d p q c).2]) rfl rfl) (.v (.extract (vs := [.agg ⟨(pk s k d p q c).1⟩, .int .i64 (pk s k d p q c).2]) rfl rfl) (.nw .alloc fun b7 => (.st (.sw rfl rfl (pk_len _ _ _ _ _ _) (pk_ones _ _ _ _ _ _)) (.v (.assign rfl) (.nil ?_)))))))))))
  refine .seq ((.region (.v (.loadA rfl .whole rfl) (.pc rfl rfl (fun w _ => Unpack_ok w kf a0 a1 a2 a3 a4 a5 a6) (.v (.move rfl) (.v (.extract (vs := [.agg ⟨(upk kf a0 a1 a2 a3 a4 a5 a6).1⟩, .int .i64 (upk kf a0 a1 a2 a3 a4 a5 a6).2]) rfl rfl) (.v (.extract (vs := [.agg ⟨(upk kf a0 a1 a2 a3 a4 a5 a6).1⟩, .int .i64 (upk kf a0 a1 a2 a3 a4 a5 a6).2]) rfl rfl) (.nw .alloc fun b9 => (.st (.sw rfl rfl (upk_len _ _ _ _ _ _ _ _) (upk_ones _ _ _ _ _ _ _ _)) (.v (.assign rfl) (.nil ?_)))))))))))
  refine .seq ((.region (.v (.loadA rfl .whole rfl) (.pc rfl rfl (fun w _ => refUnpack_ok w kf a0 a1 a2 a3 a4 a5 a6) (.v (.move rfl) (.v (.extract (vs := [.agg ⟨(upk kf a0 a1 a2 a3 a4 a5 a6).1⟩, .int .i64 (upk kf a0 a1 a2 a3 a4 a5 a6).2]) rfl rfl) (.v (.extract (vs := [.agg ⟨(upk kf a0 a1 a2 a3 a4 a5 a6).1⟩, .int .i64 (upk kf a0 a1 a2 a3 a4 a5 a6).2]) rfl rfl) (.nw .alloc fun b11 => (.st (.sw rfl rfl (upk_len _ _ _ _ _ _ _ _) (upk_ones _ _ _ _ _ _ _ _)) (.v (.assign rfl) (.nil ?_)))))))))))
  refine .seq ((.region (.v (.loadA rfl .whole (pk_len _ _ _ _ _ _)) (.v (.loadA rfl .whole (pk_len _ _ _ _ _ _)) (.v (.eqA rfl rfl (pk_oks _ _ _ _ _ _) (pk_oks _ _ _ _ _ _)) (.v (.move rfl) (.and 36 39 3 3 rfl rfl (fun g1 => .v (.move rfl) (.v (.move rfl) (.v (.eqi rfl rfl) (.nil ⟨rfl, rfl, rfl, rfl⟩)))) (.v (.move rfl) (.and 41 44 3 3 rfl rfl (fun g2 => .v (.loadA rfl .whole (upk_len _ _ _ _ _ _ _ _)) (.v (.loadA rfl .whole (upk_len _ _ _ _ _ _ _ _)) (.v (.eqA rfl rfl (upk_oks _ _ _ _ _ _ _ _) (upk_oks _ _ _ _ _ _ _ _)) (.nil ⟨rfl, rfl, rfl, rfl⟩)))) (.v (.move rfl) (.and 46 49 3 3 rfl rfl (fun g3 => .v (.move rfl) (.v (.move rfl) (.v (.eqi rfl rfl) (.nil ⟨rfl, rfl, rfl, rfl⟩)))) (.v (.assign rfl) (.nil ?_)))))))))))))
  exact .ret ⟨[_], ⟨rfl, trivial⟩, congrArg Value.bool (by rw [e1, e2]; simp)⟩
theorem FeedPacks_walk (w : World) (cs fs : List Value) (h : okw DL cs) (h2 : okw FL fs) : Is Try.prog 3 [.agg ⟨cs⟩, .agg ⟨fs⟩] w (.bool true) := by
  obtain ⟨s, k, d, p, q, c, rfl⟩ := okw_d h
  obtain ⟨kf, a0, a1, a2, a3, a4, a5, a6, rfl⟩ := okw_f h2
  exact FeedPacks_ok w s k d p q c kf a0 a1 a2 a3 a4 a5 a6
end Go.Proofs.Ytinmhhonpflojaa
